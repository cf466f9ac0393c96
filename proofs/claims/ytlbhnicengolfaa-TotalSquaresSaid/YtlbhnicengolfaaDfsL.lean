/-
  Groups: what visit of a group comes to, in a forest: each triangle once, and all that are linked. Groups: what visit adds up: signs of triangles, sums at quantities, what is left, and whether all is good. Groups: group answers just if each quantity is in two triangles at most and all are linked; signs of triangles with which common quantities cancel. Groups: the equation that group returns, for any list of triangles of a valid net.
-/
import Derived.Test.YtlbhnicengolfaaTruthP
/-! ## Dfs: Groups: what visit of a group comes to, in a forest: each triangle once, and all that are linked. -/
namespace Go.Proofs.Ytlbhnicengolfaa
open Go.RowKit
set_option linter.unusedVariables false
set_option linter.unusedSimpArgs false

/-! ### links -/
def tI (ts : List Tri) (j : Int) : Tri := tri ts j.toNat
def rstL (ts : List Tri) (i : Nat) : List Tri := ts.take i ++ ts.drop (i + 1)
theorem apart_at {ts : List Tri} (h : FPs ts) {i : Nat} (hi : i < ts.length) : Apart (rstL ts i) (tri ts i) := by
  refine h (ts.take i) (tri ts i) (ts.drop (i + 1)) ?_
  rw [tri_eq hi, ← List.drop_eq_getElem_cons hi, List.take_append_drop]
theorem mem_rst {ts : List Tri} {i k : Nat} (hk : k < ts.length) (hne : k ≠ i) : tri ts k ∈ rstL ts i := by
  unfold rstL
  rw [tri_eq hk, List.mem_append]
  rcases Nat.lt_or_ge k i with h | h
  · left
    have : ts[k] = (ts.take i)[k]'(by rw [List.length_take]; omega) := by simp
    rw [this]
    exact List.getElem_mem _
  · right
    have : ts[k] = (ts.drop (i + 1))[k - (i + 1)]'(by rw [List.length_drop]; omega) := by
      rw [List.getElem_drop]
      congr 1
      omega
    rw [this]
    exact List.getElem_mem _
theorem linkT_eq (f : Int → List Int) (t : Tri) (i : Int) (hd : t.1 ≠ t.2.1 ∧ t.1 ≠ t.2.2 ∧ t.2.1 ≠ t.2.2) (q : Int) : linkT f t i q = f q ++ (if q ∈ cor t then [i] else []) := by
  obtain ⟨a, b, c⟩ := t
  obtain ⟨h1, h2, h3⟩ := hd
  dsimp only at h1 h2 h3
  unfold linkT cor linkS
  simp only [List.foldl_cons, List.foldl_nil, List.mem_cons, List.not_mem_nil, or_false]
  by_cases e1 : q = a
  · subst e1
    simp [h1, h2, Ne.symm h1, Ne.symm h2]
  · by_cases e2 : q = b
    · subst e2
      simp [h1, h3, e1, Ne.symm h3]
    · by_cases e3 : q = c
      · subst e3
        simp [e1, e2]
      · simp [e1, e2, e3]
structure LOk (ts : List Tri) (l : List Int) : Prop where
  fp : FPs ts
  rng : ∀ x ∈ l, 0 ≤ x ∧ x < (ts.length : Int)
  nd : l.Nodup
theorem fps_ne {ts : List Tri} (h : FPs ts) {i : Nat} (hi : i < ts.length) : (tri ts i).1 ≠ (tri ts i).2.1 ∧ (tri ts i).1 ≠ (tri ts i).2.2 ∧ (tri ts i).2.1 ≠ (tri ts i).2.2 := by
  obtain ⟨h1, h2, h3⟩ := apart_at h hi
  exact ⟨fun e => h1 (by rw [← e]; exact .refl), fun e => h2 (by rw [← e]; exact .refl), fun e => h3 (by rw [← e]; exact .refl)⟩
theorem linkM_mem {ts : List Tri} (h : FPs ts) (q : Int) : ∀ k, k ≤ ts.length → ∀ o, o ∈ linkM ts k q ↔ ∃ m : Nat, m < k ∧ o = (m : Int) ∧ q ∈ cor (tri ts m)
  | 0, _, o => by simp [linkM]
  | k + 1, hk, o => by
    unfold linkM
    rw [linkT_eq _ _ _ (fps_ne h (by omega)), List.mem_append, linkM_mem h q k (by omega) o]
    constructor
    · rintro (⟨m, h1, h2⟩ | hm)
      · exact ⟨m, by omega, h2⟩
      · split at hm
        · rename_i hq
          rw [List.mem_singleton] at hm
          exact ⟨k, by omega, hm, hq⟩
        · cases hm
    · rintro ⟨m, h1, h2, h3⟩
      by_cases e : m = k
      · subst e; right; rw [if_pos h3, h2]; simp
      · exact .inl ⟨m, by omega, h2, h3⟩
theorem linkM_nd {ts : List Tri} (h : FPs ts) (q : Int) : ∀ k, k ≤ ts.length → (linkM ts k q).Nodup
  | 0, _ => by simp [linkM]
  | k + 1, hk => by
    unfold linkM
    rw [linkT_eq _ _ _ (fps_ne h (by omega))]
    split
    · rw [List.nodup_append]
      refine ⟨linkM_nd h q k (by omega), by simp, fun a ha b hb => ?_⟩
      rw [List.mem_singleton] at hb
      obtain ⟨m, h1, h2, _⟩ := (linkM_mem h q k (by omega) a).1 ha
      omega
    · rw [List.append_nil]; exact linkM_nd h q k (by omega)
/-- The other triangles of l at a quantity. -/
def oth (ts : List Tri) (l : List Int) (c i : Int) : List Int := (linkM ts ts.length c).filter fun o => decide (o ∈ l) && decide (o ≠ i)
theorem mem_oth {ts : List Tri} {l : List Int} (h : LOk ts l) {c i o : Int} : o ∈ oth ts l c i ↔ o ∈ l ∧ o ≠ i ∧ c ∈ cor (tI ts o) := by
  unfold oth
  rw [List.mem_filter, linkM_mem h.fp c _ (Nat.le_refl _)]
  simp only [Bool.and_eq_true, decide_eq_true_eq]
  constructor
  · rintro ⟨⟨m, h1, rfl, h3⟩, h4, h5⟩
    exact ⟨h4, h5, by unfold tI; rw [Int.toNat_natCast]; exact h3⟩
  · rintro ⟨h1, h2, h3⟩
    have := h.rng o h1
    exact ⟨⟨o.toNat, by omega, by omega, h3⟩, h1, h2⟩
theorem oth_nd {ts : List Tri} {l : List Int} (h : LOk ts l) (c i : Int) : (oth ts l c i).Nodup := (linkM_nd h.fp c _ (Nat.le_refl _)).filter _

/-! ### what is visited -/
def vl (ts : List Tri) (l : List Int) : Nat → Int → Int → List Int
  | 0, _, _ => []
  | f + 1, i, from_ => i :: (cor (tI ts i)).flatMap fun c => if c = from_ then [] else (oth ts l c i).flatMap fun o => vl ts l f o c
theorem vl_eq (ts : List Tri) (l : List Int) (f : Nat) (i from_ : Int) : vl ts l (f + 1) i from_ = i :: (cor (tI ts i)).flatMap fun c => if c = from_ then [] else (oth ts l c i).flatMap fun o => vl ts l f o c := rfl
theorem vl_succ {ts : List Tri} {l : List Int} (h : LOk ts l) {f : Nat} {i from_ j : Int} : j ∈ vl ts l (f + 1) i from_ ↔ j = i ∨ ∃ c ∈ cor (tI ts i), c ≠ from_ ∧ ∃ o, o ∈ l ∧ o ≠ i ∧ c ∈ cor (tI ts o) ∧ j ∈ vl ts l f o c := by
  rw [vl_eq, List.mem_cons, List.mem_flatMap]
  constructor
  · rintro (h1 | ⟨c, h1, h2⟩)
    · exact .inl h1
    · split at h2
      · cases h2
      · rename_i hc
        obtain ⟨o, h3, h4⟩ := List.mem_flatMap.1 h2
        obtain ⟨g1, g2, g3⟩ := (mem_oth h).1 h3
        exact .inr ⟨c, h1, hc, o, g1, g2, g3, h4⟩
  · rintro (h1 | ⟨c, h1, hc, o, g1, g2, g3, h4⟩)
    · exact .inl h1
    · exact .inr ⟨c, h1, by rw [if_neg hc]; exact List.mem_flatMap.2 ⟨o, (mem_oth h).2 ⟨g1, g2, g3⟩, h4⟩⟩
theorem vl_in {ts : List Tri} {l : List Int} (h : LOk ts l) : ∀ f i from_, i ∈ l → ∀ j ∈ vl ts l f i from_, j ∈ l
  | 0, i, from_, _, j, hj => by cases hj
  | f + 1, i, from_, hi, j, hj => by
    rcases (vl_succ h).1 hj with rfl | ⟨c, _, _, o, g1, _, _, h4⟩
    · exact hi
    · exact vl_in h f o c g1 j h4
theorem vl_conn {ts : List Tri} {l : List Int} (h : LOk ts l) {i : Nat} : ∀ f o c, o ∈ l → c ∈ cor (tI ts o) → (∀ x ∈ vl ts l f o c, x ≠ (i : Int)) → ∀ j ∈ vl ts l f o c, ∀ d ∈ cor (tI ts j), Conn (rstL ts i) c d
  | 0, o, c, _, _, _, j, hj, _, _ => by cases hj
  | f + 1, o, c, ho, hc, hne, j, hj, d, hd => by
    have hor := h.rng o ho
    have hoi : o ≠ (i : Int) := hne o ((vl_succ h).2 (.inl rfl))
    have hmo : tI ts o ∈ rstL ts i := mem_rst (by omega) (by omega)
    rcases (vl_succ h).1 hj with rfl | ⟨c', g0, g1, o', g2, g3, g4, g5⟩
    · exact .step _ .refl hmo hc hd
    · have ih := vl_conn h f o' c' g2 g4 (fun x hx => hne x ((vl_succ h).2 (.inr ⟨c', g0, g1, o', g2, g3, g4, hx⟩))) j g5 d hd
      exact (Conn.step _ .refl hmo hc g0).trans ih
theorem vl_ne {ts : List Tri} {l : List Int} (h : LOk ts l) : ∀ f (i o c : Int), i ∈ l → o ∈ l → o ≠ i → c ∈ cor (tI ts i) → c ∈ cor (tI ts o) → ∀ x ∈ vl ts l f o c, x ≠ i
  | 0, i, o, c, _, _, _, _, _, x, hx => by cases hx
  | f + 1, i, o, c, hi, ho, hoi, hci, hco, x, hx => by
    rcases (vl_succ h).1 hx with rfl | ⟨d, g0, g1, o', g2, g3, g4, g5⟩
    · exact hoi
    · intro e
      have hor := h.rng o ho
      have hno : ∀ y ∈ vl ts l f o' d, y ≠ ((o.toNat : Nat) : Int) := by
        rw [Int.toNat_of_nonneg hor.1]
        exact vl_ne h f o o' d ho g2 g3 g0 g4
      have hcn := vl_conn h (i := o.toNat) f o' d g2 g4 hno x g5 c (by rw [e]; exact hci)
      exact g1 ((apart_at h.fp (by omega : o.toNat < ts.length)).eq g0 hco hcn)
theorem vl_far {ts : List Tri} {l : List Int} (h : LOk ts l) {f : Nat} {i o c : Int} (hi : i ∈ l) (ho : o ∈ l) (hoi : o ≠ i) (hci : c ∈ cor (tI ts i)) (hco : c ∈ cor (tI ts o)) {j : Int} (hj : j ∈ vl ts l f o c) {d : Int} (hd : d ∈ cor (tI ts j)) : Conn (rstL ts i.toNat) c d := by
  have hir := h.rng i hi
  refine vl_conn h (i := i.toNat) f o c ho hco ?_ j hj d hd
  rw [Int.toNat_of_nonneg hir.1]
  exact vl_ne h f i o c hi ho hoi hci hco
/-- Two corners of a triangle that are linked without it are one. -/
theorem far_eq {ts : List Tri} {l : List Int} (h : LOk ts l) {i : Int} (hi : i ∈ l) {c d : Int} (hc : c ∈ cor (tI ts i)) (hd : d ∈ cor (tI ts i)) (k : Conn (rstL ts i.toNat) c d) : c = d := by
  have hir := h.rng i hi
  exact (apart_at h.fp (by omega : i.toNat < ts.length)).eq hc hd k
theorem nodup_flat {α β : Type} {f : α → List β} : ∀ {L : List α}, L.Nodup → (∀ x ∈ L, (f x).Nodup) → (∀ x ∈ L, ∀ y ∈ L, x ≠ y → ∀ z, z ∈ f x → z ∉ f y) → (L.flatMap f).Nodup
  | [], _, _, _ => by simp
  | a :: L, h1, h2, h3 => by
    rw [List.nodup_cons] at h1
    rw [List.flatMap_cons, List.nodup_append]
    refine ⟨h2 a (by simp), nodup_flat h1.2 (fun x hx => h2 x (by simp [hx])) (fun x hx y hy => h3 x (by simp [hx]) y (by simp [hy])), fun z hz z' hz' e => ?_⟩
    subst e
    obtain ⟨b, hb, hzb⟩ := List.mem_flatMap.1 hz'
    exact h3 a (by simp) b (by simp [hb]) (fun e => h1.1 (by rw [e]; exact hb)) z hz hzb
theorem cor_nd {ts : List Tri} {l : List Int} (h : LOk ts l) {i : Int} (hi : i ∈ l) : (cor (tI ts i)).Nodup := by
  have hir := h.rng i hi
  obtain ⟨h1, h2, h3⟩ := fps_ne h.fp (by omega : i.toNat < ts.length)
  unfold cor tI
  simp [h1, h2, h3]
/-- Branches at a triangle share nothing. -/
theorem vl_apart {ts : List Tri} {l : List Int} (h : LOk ts l) {f : Nat} {i c c' o o' : Int} (hi : i ∈ l) (hc : c ∈ cor (tI ts i)) (hc' : c' ∈ cor (tI ts i)) (ho : o ∈ l) (ho' : o' ∈ l) (hoi : o ≠ i) (hoi' : o' ≠ i) (hco : c ∈ cor (tI ts o)) (hco' : c' ∈ cor (tI ts o')) (hne : c ≠ c' ∨ o ≠ o') {j : Int} (hj : j ∈ vl ts l f o c) (hj' : j ∈ vl ts l f o' c') : False := by
  have hd0 : (tI ts j).1 ∈ cor (tI ts j) := by simp [cor]
  by_cases e : c = c'
  · subst e
    have hoo : o ≠ o' := hne.resolve_left (fun h => h rfl)
    cases f with
    | zero => cases hj
    | succ f =>
      have key : ∀ {a b : Int}, a ∈ l → b ∈ l → a ≠ b → c ∈ cor (tI ts a) → c ∈ cor (tI ts b) → ∀ x ∈ vl ts l (f + 1) a c, x ≠ b := fun ha hb hab hca hcb => vl_ne h (f + 1) _ _ c hb ha hab hcb hca
      rcases (vl_succ h).1 hj with rfl | ⟨d, g0, g1, o2, g2, g3, g4, g5⟩
      · exact key ho' ho (Ne.symm hoo) hco' hco j hj' rfl
      · -- corners of j are linked with d without o; with c too
        have a1 := vl_far h ho g2 g3 g0 g4 g5 hd0
        have a2 := vl_far h (i := o) (o := o') (c := c) ho ho' (Ne.symm hoo) hco hco' hj' hd0
        exact g1 (far_eq h ho g0 hco (a1.trans a2.symm))
  · have a1 := vl_far h hi ho hoi hc hco hj hd0
    have a2 := vl_far h hi ho' hoi' hc' hco' hj' hd0
    exact e (far_eq h hi hc hc' (a1.trans a2.symm))
theorem vl_nd {ts : List Tri} {l : List Int} (h : LOk ts l) : ∀ f i from_, i ∈ l → (vl ts l f i from_).Nodup
  | 0, i, from_, _ => by simp [vl]
  | f + 1, i, from_, hi => by
    rw [vl_eq, List.nodup_cons]
    have hb : ∀ c ∈ cor (tI ts i), ∀ x, (x ∈ (if c = from_ then [] else (oth ts l c i).flatMap fun o => vl ts l f o c)) → ∃ o, o ∈ l ∧ o ≠ i ∧ c ∈ cor (tI ts o) ∧ x ∈ vl ts l f o c := fun c hc x hx => by
      split at hx
      · cases hx
      · obtain ⟨o, h3, h4⟩ := List.mem_flatMap.1 hx
        obtain ⟨g1, g2, g3⟩ := (mem_oth h).1 h3
        exact ⟨o, g1, g2, g3, h4⟩
    refine ⟨fun hm => ?_, nodup_flat (cor_nd h hi) (fun c hc => ?_) (fun c hc c' hc' hne x hx hx' => ?_)⟩
    · obtain ⟨c, hc, hx⟩ := List.mem_flatMap.1 hm
      obtain ⟨o, g1, g2, g3, g4⟩ := hb c hc i hx
      exact vl_ne h f i o c hi g1 g2 hc g3 i g4 rfl
    · split
      · simp
      · refine nodup_flat (oth_nd h c i) (fun o ho => vl_nd h f o c ((mem_oth h).1 ho).1) (fun o ho o' ho' hne x hx hx' => ?_)
        obtain ⟨g1, g2, g3⟩ := (mem_oth h).1 ho
        obtain ⟨k1, k2, k3⟩ := (mem_oth h).1 ho'
        exact vl_apart h hi hc hc g1 k1 g2 k2 g3 k3 (.inr hne) hx hx'
    · obtain ⟨o, g1, g2, g3, g4⟩ := hb c hc x hx
      obtain ⟨o', k1, k2, k3, k4⟩ := hb c' hc' x hx'
      exact vl_apart h hi hc hc' g1 k1 g2 k2 g3 k3 (.inl hne) g4 k4

end Go.Proofs.Ytlbhnicengolfaa

/-! ## DfsV: Groups: what visit adds up: signs of triangles, sums at quantities, what is left, and whether all is good. -/
namespace Go.Proofs.Ytlbhnicengolfaa
open Go.RowKit
set_option linter.unusedVariables false
set_option linter.unusedSimpArgs false

/-- The number of a quantity in a triangle. -/
def coe (t : Tri) (q : Int) : Int := if q = t.1 ∨ q = t.2.1 then 1 else if q = t.2.2 then -1 else 0
theorem coe_cor {t : Tri} {q : Int} : coe t q ≠ 0 ↔ q ∈ cor t := by
  unfold coe cor
  simp only [List.mem_cons, List.not_mem_nil, or_false]
  split
  · rename_i h; simp; rcases h with h | h <;> simp [h]
  · rename_i h
    split
    · rename_i h2; simp [h2]
    · rename_i h2; simp; exact ⟨fun e => h (.inl e), fun e => h (.inr e), h2⟩
theorem coe_one (t : Tri) (q : Int) : coe t q = 1 ∨ coe t q = -1 ∨ coe t q = 0 := by
  unfold coe
  split
  · exact .inl rfl
  · split
    · exact .inr (.inl rfl)
    · exact .inr (.inr rfl)
def turnS (t : Tri) (c own : Int) : Int := if t.2.2 = c then own else -own
/-- The triangles that are visited, each with its sign. -/
def vs (ts : List Tri) (l : List Int) : Nat → Int → Int → Int → List (Int × Int)
  | 0, _, _, _ => []
  | f + 1, i, sign, from_ => (i, sign) :: (cor (tI ts i)).flatMap fun c => if c = from_ then [] else (oth ts l c i).flatMap fun o => vs ts l f o (turnS (tI ts o) c (sign * coe (tI ts i) c)) c
theorem vs_eq (ts : List Tri) (l : List Int) (f : Nat) (i sign from_ : Int) : vs ts l (f + 1) i sign from_ = (i, sign) :: (cor (tI ts i)).flatMap fun c => if c = from_ then [] else (oth ts l c i).flatMap fun o => vs ts l f o (turnS (tI ts o) c (sign * coe (tI ts i) c)) c := rfl
theorem vs_fst (ts : List Tri) (l : List Int) : ∀ f i sign from_, (vs ts l f i sign from_).map Prod.fst = vl ts l f i from_
  | 0, _, _, _ => rfl
  | f + 1, i, sign, from_ => by
    rw [vs_eq, vl_eq, List.map_cons, List.map_flatMap]
    congr 1
    refine congrArg (fun g => List.flatMap g _) (funext fun c => ?_)
    split
    · rfl
    · rw [List.map_flatMap]
      exact congrArg (fun g => List.flatMap g _) (funext fun o => vs_fst ts l f o _ c)
theorem vs_len (ts : List Tri) (l : List Int) (f : Nat) (i sign from_ : Int) : (vs ts l f i sign from_).length = (vl ts l f i from_).length := by rw [← vs_fst ts l f i sign, List.length_map]
def sumC (ts : List Tri) : List (Int × Int) → Int → Int
  | [], _ => 0
  | (j, s) :: R, q => s * coe (tI ts j) q + sumC ts R q
theorem sumC_append (ts : List Tri) (q : Int) : ∀ A B, sumC ts (A ++ B) q = sumC ts A q + sumC ts B q
  | [], B => by simp [sumC]
  | (j, s) :: A, B => by
    have e : ∀ R, sumC ts ((j, s) :: R) q = s * coe (tI ts j) q + sumC ts R q := fun R => rfl
    rw [List.cons_append, e, e, sumC_append ts q A B]; omega
def cntL (ts : List Tri) (l : List Int) (q : Int) : Nat := ((linkM ts ts.length q).filter fun o => decide (o ∈ l)).length
def okJ (ts : List Tri) (l : List Int) (j : Int) : Bool := (cor (tI ts j)).all fun c => decide (cntL ts l c < 3)
def Bd (M : Int) (xs : List Int) : Prop := ∀ i : Nat, -M ≤ xs.getD i 0 ∧ xs.getD i 0 ≤ M
/-- The effect of a part of the search. -/
structure Ef (ts : List Tri) (l : List Int) (st : GS) (a : Int → Int) (m : Nat) (R : List (Int × Int)) (g : Bool) (st' : GS) : Prop where
  left : st'.left = st.left - R.length
  len : st'.out.length = st.out.length
  good : st'.good = (st.good && (g && R.all fun p => okJ ts l p.1))
  out : ∀ M : Int, Bd M st.out → 0 ≤ M → M + m + 3 * (R.length : Int) ≤ 1000000000 → Bd (M + m + 3 * R.length) st'.out ∧ ∀ q : Int, 0 ≤ q → q < (st.out.length : Int) → st'.out.getD q.toNat 0 = st.out.getD q.toNat 0 + a q + sumC ts R q
section
variable {ts : List Tri} {l : List Int}
theorem Ef.refl (st : GS) : Ef ts l st (fun _ => 0) 0 [] true st := ⟨by simp, rfl, by simp, fun M h h0 _ => ⟨fun i => by have := h i; simp only [List.length_nil]; omega, fun q _ _ => by simp [sumC]⟩⟩
theorem Ef.trans {st st1 st2 : GS} {a b : Int → Int} {m k : Nat} {R S : List (Int × Int)} {g g' : Bool} (h : Ef ts l st a m R g st1) (h' : Ef ts l st1 b k S g' st2) : Ef ts l st (fun q => a q + b q) (m + k) (R ++ S) (g && g') st2 := by
  refine ⟨by rw [h'.left, h.left, List.length_append]; omega, h'.len.trans h.len, ?_, fun M hM h0 hb => ?_⟩
  · rw [h'.good, h.good, List.all_append]
    cases st.good <;> cases g <;> cases g' <;> simp
  · rw [List.length_append] at hb ⊢
    obtain ⟨b1, e1⟩ := h.out M hM h0 (by omega)
    obtain ⟨b2, e2⟩ := h'.out _ b1 (by omega) (by omega)
    refine ⟨fun i => by have := b2 i; omega, fun q q0 q1 => ?_⟩
    rw [e2 q q0 (by rw [h.len]; exact q1), e1 q q0 q1, sumC_append]
    omega
theorem Ef.congr {st st1 : GS} {a b : Int → Int} {m k : Nat} {R S : List (Int × Int)} {g g' : Bool} (h : Ef ts l st a m R g st1) (ha : ∀ q, a q = b q) (hm : m = k) (hR : R = S) (hg : g = g') : Ef ts l st b k S g' st1 := by
  have : a = b := funext ha
  subst this hm hR hg
  exact h
theorem ef_add {st : GS} {c own : Int} (hc : 0 ≤ c) (hn : c < (st.out.length : Int)) (ho : -1 ≤ own ∧ own ≤ 1) : Ef ts l st (fun q => if q = c then own else 0) 1 [] true { st with out := addO st.out c own } := by
  have hg : ∀ i : Nat, ∀ M : Int, Bd M st.out → 0 ≤ M → M + 1 ≤ 1000000000 → (addO st.out c own).getD i 0 = if i = c.toNat then st.out.getD i 0 + own else st.out.getD i 0 := fun i M hM h0 hb => by
    unfold addO
    rw [List.getD_eq_getElem?_getD, List.getElem?_set]
    by_cases e : c.toNat = i
    · rw [if_pos e, if_pos (by omega), if_pos e.symm]
      have := hM c.toNat
      show wrap64 (st.out.getD c.toNat 0 + own) = _
      rw [IntWalk.wrap64_in _ (by omega), e]
    · rw [if_neg e, if_neg (fun h => e h.symm), ← List.getD_eq_getElem?_getD]
  refine ⟨by simp, addO_len _ _ _, by simp, fun M hM h0 hb => ?_⟩
  simp only [List.length_nil] at hb ⊢
  refine ⟨fun i => ?_, fun q q0 q1 => ?_⟩
  · show -(M + ((1 : Nat) : Int) + 3 * ((0 : Nat) : Int)) ≤ (addO st.out c own).getD i 0 ∧ (addO st.out c own).getD i 0 ≤ M + ((1 : Nat) : Int) + 3 * ((0 : Nat) : Int)
    rw [hg i M hM h0 (by omega)]
    have := hM i
    split <;> omega
  · show (addO st.out c own).getD q.toNat 0 = _
    rw [hg _ M hM h0 (by omega)]
    by_cases e : q = c
    · subst e; rw [if_pos rfl, if_pos rfl]; simp [sumC]
    · rw [if_neg (by omega), if_neg e]; simp [sumC]
theorem ef_good {st : GS} {g : Bool} : Ef ts l st (fun _ => 0) 0 [] g { st with good := st.good && g } := ⟨by simp, rfl, by simp, fun M hM h0 hb => ⟨fun i => by have := hM i; simp only [List.length_nil]; omega, fun q _ _ => by simp [sumC]⟩⟩
end
/-- What is visited at a corner from some triangles. -/
def chR (ts : List Tri) (l : List Int) (f : Nat) (c i own : Int) (xs : List Int) : List (Int × Int) := (xs.filter fun o => decide (o ∈ l) && decide (o ≠ i)).flatMap fun o => vs ts l f o (turnS (tI ts o) c own) c
theorem chR_cons (ts : List Tri) (l : List Int) (f : Nat) (c i own o : Int) (xs : List Int) : chR ts l f c i own (o :: xs) = (if o ∈ l ∧ o ≠ i then vs ts l f o (turnS (tI ts o) c own) c else []) ++ chR ts l f c i own xs := by
  unfold chR
  rw [List.filter_cons]
  by_cases h : o ∈ l ∧ o ≠ i
  · rw [if_pos h, if_pos (by simp [h.1, h.2]), List.flatMap_cons]
  · rw [if_neg h, if_neg (by simp; intro h1; exact Classical.byContradiction fun h2 => h ⟨h1, h2⟩), List.nil_append]
section
variable {ts : List Tri} {l : List Int}
theorem gO_skip {vis : Int → Int → Int → GS → GS} {i c from_ own : Int} (hc : c = from_) : ∀ (xs : List Int) (u : Int) (st : GS), (xs.foldl (gO vis ts l i c from_ own) (u, st)).2 = st ∧ (xs.foldl (gO vis ts l i c from_ own) (u, st)).1 = u + ((xs.filter fun o => decide (o ∈ l)).length : Int)
  | [], u, st => by simp
  | o :: xs, u, st => by
    rw [List.foldl_cons, List.filter_cons]
    by_cases ho : o ∈ l
    · have e : gO vis ts l i c from_ own (u, st) o = (u + 1, st) := by unfold gO; rw [if_neg (fun hn => hn ho), if_pos (.inr hc)]
      obtain ⟨h1, h2⟩ := gO_skip (vis := vis) (i := i) (own := own) hc xs (u + 1) st
      rw [e, if_pos (by simpa using ho)]
      exact ⟨h1, by rw [h2, List.length_cons]; omega⟩
    · have e : gO vis ts l i c from_ own (u, st) o = (u, st) := by unfold gO; rw [if_pos ho]
      rw [e, if_neg (by simpa using ho)]
      exact gO_skip hc xs u st
theorem gO_all {f : Nat} {N : Nat} (IH : ∀ (o sign c : Int) (st : GS), o ∈ l → (sign = 1 ∨ sign = -1) → st.out.length = N → ((vs ts l f o sign c).length : Int) ≤ st.left → Ef ts l st (fun _ => 0) 0 (vs ts l f o sign c) true (vg ts l (linkM ts ts.length) f o sign c st)) {i c from_ own : Int} (hc : c ≠ from_) (hown : own = 1 ∨ own = -1) :
    ∀ (xs : List Int) (u : Int) (st : GS), st.out.length = N → ((chR ts l f c i own xs).length : Int) ≤ st.left → Ef ts l st (fun _ => 0) 0 (chR ts l f c i own xs) true (xs.foldl (gO (vg ts l (linkM ts ts.length) f) ts l i c from_ own) (u, st)).2 ∧ (xs.foldl (gO (vg ts l (linkM ts ts.length) f) ts l i c from_ own) (u, st)).1 = u + ((xs.filter fun o => decide (o ∈ l)).length : Int)
  | [], u, st, _, _ => ⟨.refl st, by simp⟩
  | o :: xs, u, st, hN, hl => by
    rw [chR_cons] at hl ⊢
    rw [List.foldl_cons]
    by_cases ho : o ∈ l
    · rw [List.filter_cons_of_pos (by simpa using ho)]
      by_cases hoi : o = i
      · have e : gO (vg ts l (linkM ts ts.length) f) ts l i c from_ own (u, st) o = (u + 1, st) := by unfold gO; rw [if_neg (fun hn => hn ho), if_pos (.inl hoi)]
        have hno : ¬ (o ∈ l ∧ o ≠ i) := fun h => h.2 hoi
        rw [if_neg hno, List.nil_append] at hl ⊢
        obtain ⟨h1, h2⟩ := gO_all IH (i := i) hc hown xs (u + 1) st hN hl
        rw [e]
        exact ⟨h1, by rw [h2, List.length_cons]; omega⟩
      · rw [if_pos ⟨ho, hoi⟩] at hl ⊢
        rw [List.length_append] at hl
        have ht : turnS (tI ts o) c own = 1 ∨ turnS (tI ts o) c own = -1 := by
          unfold turnS
          split <;> rcases hown with h | h <;> simp [h]
        have e : ∃ st1, gO (vg ts l (linkM ts ts.length) f) ts l i c from_ own (u, st) o = (u + 1, st1) ∧ Ef ts l st (fun _ => 0) 0 (vs ts l f o (turnS (tI ts o) c own) c) true st1 := by
          unfold gO
          rw [if_neg (fun hn => hn ho), if_neg (by rintro (h | h); exact hoi h; exact hc h)]
          refine ⟨_, rfl, ?_⟩
          split
          · exact IH o _ c st ho ht hN (by omega)
          · rename_i hpos
            have hz : vs ts l f o (turnS (tI ts o) c own) c = [] := by
              refine List.eq_nil_of_length_eq_zero ?_
              have : ¬ (0 < st.left) := hpos
              omega
            rw [hz]
            exact .refl st
        obtain ⟨st1, e1, e2⟩ := e
        rw [e1]
        obtain ⟨h1, h2⟩ := gO_all IH (i := i) hc hown xs (u + 1) st1 (by rw [e2.len]; exact hN) (by rw [e2.left]; omega)
        exact ⟨(e2.trans h1).congr (fun q => by simp) (by simp) rfl (by simp), by rw [h2, List.length_cons]; omega⟩
    · have e : gO (vg ts l (linkM ts ts.length) f) ts l i c from_ own (u, st) o = (u, st) := by unfold gO; rw [if_pos ho]
      have hno : ¬ (o ∈ l ∧ o ≠ i) := fun h => ho h.1
      rw [if_neg hno, List.nil_append] at hl ⊢
      rw [e, List.filter_cons_of_neg (by simpa using ho)]
      exact gO_all IH hc hown xs u st hN hl
def cR (ts : List Tri) (l : List Int) (f : Nat) (i from_ own c : Int) : List (Int × Int) := if c = from_ then [] else chR ts l f c i own (linkM ts ts.length c)
theorem gC_ef {f : Nat} {N : Nat} (IH : ∀ (o sign c : Int) (st : GS), o ∈ l → (sign = 1 ∨ sign = -1) → st.out.length = N → ((vs ts l f o sign c).length : Int) ≤ st.left → Ef ts l st (fun _ => 0) 0 (vs ts l f o sign c) true (vg ts l (linkM ts ts.length) f o sign c st)) {i from_ own c : Int} (hown : own = 1 ∨ own = -1) (hc0 : 0 ≤ c) (hc1 : c < (N : Int)) (st : GS) (hN : st.out.length = N) (hl : ((cR ts l f i from_ own c).length : Int) ≤ st.left) :
    Ef ts l st (fun q => if q = c then own else 0) 1 (cR ts l f i from_ own c) (decide (cntL ts l c < 3)) (gC (vg ts l (linkM ts ts.length) f) ts l (linkM ts ts.length) i from_ own c st) := by
  have h0 := ef_add (ts := ts) (l := l) (st := st) (c := c) (own := own) hc0 (by rw [hN]; exact hc1) (by rcases hown with h | h <;> rw [h] <;> omega)
  unfold gC cR cntL at *
  dsimp only at *
  by_cases e : c = from_
  · rw [if_pos e] at hl ⊢
    obtain ⟨h1, h2⟩ := gO_skip (vis := vg ts l (linkM ts ts.length) f) (ts := ts) (l := l) (i := i) (own := own) e (linkM ts ts.length c) 0 { st with out := addO st.out c own }
    rw [h1, h2]
    have := h0.trans (ef_good (g := decide ((0 : Int) + ((List.filter (fun o => decide (o ∈ l)) (linkM ts ts.length c)).length : Int) < 3)))
    exact this.congr (fun q => by simp) rfl rfl (by simp; omega)
  · rw [if_neg e] at hl ⊢
    obtain ⟨h1, h2⟩ := gO_all IH (i := i) e hown (linkM ts ts.length c) 0 { st with out := addO st.out c own } (by show (addO _ _ _).length = N; rw [addO_len]; exact hN) hl
    rw [h2]
    have := (h0.trans h1).trans (ef_good (g := decide ((0 : Int) + ((List.filter (fun o => decide (o ∈ l)) (linkM ts ts.length c)).length : Int) < 3)))
    exact this.congr (fun q => by simp) rfl (by simp) (by simp; omega)
theorem vs_form (ts : List Tri) (l : List Int) (f : Nat) (i sign from_ : Int) : vs ts l (f + 1) i sign from_ = (i, sign) :: (cR ts l f i from_ (sign * coe (tI ts i) (tI ts i).1) (tI ts i).1 ++ (cR ts l f i from_ (sign * coe (tI ts i) (tI ts i).2.1) (tI ts i).2.1 ++ cR ts l f i from_ (sign * coe (tI ts i) (tI ts i).2.2) (tI ts i).2.2)) := by
  rw [vs_eq]
  unfold cor cR chR oth
  simp only [List.flatMap_cons, List.flatMap_nil, List.append_nil]
theorem vg_ef (h : LOk ts l) {N : Nat} (hin : ∀ t ∈ ts, ∀ o ∈ cor t, 0 ≤ o ∧ o < (N : Int)) : ∀ f (i sign from_ : Int) (st : GS), i ∈ l → (sign = 1 ∨ sign = -1) → st.out.length = N → ((vs ts l f i sign from_).length : Int) ≤ st.left → Ef ts l st (fun _ => 0) 0 (vs ts l f i sign from_) true (vg ts l (linkM ts ts.length) f i sign from_ st)
  | 0, i, sign, from_, st, _, _, _, _ => .refl st
  | f + 1, i, sign, from_, st, hi, hs, hN, hl => by
    have IH := vg_ef h hin f
    have hir := h.rng i hi
    have hne := fps_ne h.fp (by omega : i.toNat < ts.length)
    have hmem : tI ts i ∈ ts := by unfold tI; rw [tri_eq (by omega)]; exact List.getElem_mem _
    rw [vs_form] at hl ⊢
    change (tI ts i).1 ≠ (tI ts i).2.1 ∧ (tI ts i).1 ≠ (tI ts i).2.2 ∧ (tI ts i).2.1 ≠ (tI ts i).2.2 at hne
    have ha := hin _ hmem (tI ts i).1 (by simp [cor])
    have hb := hin _ hmem (tI ts i).2.1 (by simp [cor])
    have hc := hin _ hmem (tI ts i).2.2 (by simp [cor])
    have ca : coe (tI ts i) (tI ts i).1 = 1 := by unfold coe; simp
    have cb : coe (tI ts i) (tI ts i).2.1 = 1 := by unfold coe; simp
    have cc : coe (tI ts i) (tI ts i).2.2 = -1 := by unfold coe; rw [if_neg (by rintro (e | e); exact hne.2.1 e.symm; exact hne.2.2 e.symm), if_pos rfl]
    rw [ca, cb, cc] at hl ⊢
    have o0 : ownAt sign 0 = sign * 1 := by unfold ownAt; rw [if_neg (by omega)]; omega
    have o1 : ownAt sign 1 = sign * 1 := by unfold ownAt; rw [if_neg (by omega)]; omega
    have o2 : ownAt sign 2 = sign * -1 := by unfold ownAt; rw [if_pos rfl]; omega
    have hvg : vg ts l (linkM ts ts.length) (f + 1) i sign from_ st = gC (vg ts l (linkM ts ts.length) f) ts l (linkM ts ts.length) i from_ (sign * -1) (tI ts i).2.2 (gC (vg ts l (linkM ts ts.length) f) ts l (linkM ts ts.length) i from_ (sign * 1) (tI ts i).2.1 (gC (vg ts l (linkM ts ts.length) f) ts l (linkM ts ts.length) i from_ (sign * 1) (tI ts i).1 { st with left := st.left - 1 })) := by
      rw [← o0, ← o2]
      rfl
    rw [hvg]
    rw [List.length_cons, List.length_append, List.length_append] at hl
    have hown : ∀ k : Int, (k = 1 ∨ k = -1) → (sign * k = 1 ∨ sign * k = -1) := fun k hk => by rcases hs with e | e <;> rcases hk with e' | e' <;> rw [e, e'] <;> simp
    have e1 := gC_ef IH (i := i) (from_ := from_) (hown 1 (.inl rfl)) ha.1 ha.2 { st with left := st.left - 1 } hN (by show _ ≤ st.left - 1; omega)
    have e2 := gC_ef IH (i := i) (from_ := from_) (hown 1 (.inl rfl)) hb.1 hb.2 _ (by rw [e1.len]; exact hN) (by rw [e1.left]; show _ ≤ st.left - 1 - _; omega)
    have e3 := gC_ef IH (i := i) (from_ := from_) (hown (-1) (.inr rfl)) hc.1 hc.2 _ (by rw [e2.len, e1.len]; exact hN) (by rw [e2.left, e1.left]; show _ ≤ st.left - 1 - _ - _; omega)
    have e := (e1.trans e2).trans e3
    generalize gC _ _ _ _ _ _ _ _ (gC _ _ _ _ _ _ _ _ (gC _ _ _ _ _ _ _ _ _)) = st' at *
    generalize cR ts l f i from_ (sign * 1) (tI ts i).1 = RA at *
    generalize cR ts l f i from_ (sign * 1) (tI ts i).2.1 = RB at *
    generalize cR ts l f i from_ (sign * -1) (tI ts i).2.2 = RC at *
    refine ⟨?_, e.len, ?_, fun M hM h0 hbd => ?_⟩
    · rw [e.left]
      show st.left - 1 - _ = _
      simp only [List.length_append, List.length_cons]
      omega
    · rw [e.good]
      show (st.good && _) = _
      rw [List.all_cons]
      have : okJ ts l i = (decide (cntL ts l (tI ts i).1 < 3) && decide (cntL ts l (tI ts i).2.1 < 3) && decide (cntL ts l (tI ts i).2.2 < 3)) := by
        unfold okJ cor
        simp [Bool.and_assoc]
      rw [this, List.append_assoc]
      simp
    · simp only [List.length_cons, List.length_append] at hbd
      obtain ⟨b1, b2⟩ := e.out M hM h0 (by simp only [List.length_append]; omega)
      refine ⟨fun k => ?_, fun q q0 q1 => ?_⟩
      · have := b1 k
        simp only [List.length_cons, List.length_append] at this ⊢
        omega
      · rw [b2 q q0 q1]
        show st.out.getD q.toNat 0 + _ + _ = _
        rw [List.append_assoc]
        show _ = _ + 0 + (sign * coe (tI ts i) q + sumC ts (RA ++ (RB ++ RC)) q)
        have hco : ((if q = (tI ts i).1 then sign * 1 else 0) + if q = (tI ts i).2.1 then sign * 1 else 0) + (if q = (tI ts i).2.2 then sign * -1 else 0) = sign * coe (tI ts i) q := by
          unfold coe
          by_cases k1 : q = (tI ts i).1
          · subst k1; simp [hne.1, hne.2.1]
          · by_cases k2 : q = (tI ts i).2.1
            · subst k2; simp [k1, hne.2.2]
            · by_cases k3 : q = (tI ts i).2.2
              · subst k3; simp [k1, k2]
              · simp [k1, k2, k3]
        rw [← hco]
        omega
end

end Go.Proofs.Ytlbhnicengolfaa

/-! ## DfsG: Groups: group answers just if each quantity is in two triangles at most and all are linked; signs of triangles with which common quantities cancel. -/
namespace Go.Proofs.Ytlbhnicengolfaa
open Go.RowKit
set_option linter.unusedVariables false
set_option linter.unusedSimpArgs false

theorem nodup_len : ∀ {a b : List Int}, a.Nodup → (∀ x ∈ a, x ∈ b) → a.length ≤ b.length
  | [], b, _, _ => by simp
  | x :: a, b, h, hs => by
    rw [List.nodup_cons] at h
    have hx := hs x (by simp)
    have ih := nodup_len (b := b.erase x) h.2 (fun y hy => by
      have hne : y ≠ x := fun e => h.1 (by rw [← e]; exact hy)
      rw [List.mem_erase_of_ne hne]
      exact hs y (by simp [hy]))
    rw [List.length_erase_of_mem hx] at ih
    have : 0 < b.length := List.length_pos_of_mem hx
    rw [List.length_cons]
    omega
theorem nodup_full {a b : List Int} (h : a.Nodup) (hs : ∀ x ∈ a, x ∈ b) (hl : b.length ≤ a.length) : ∀ x ∈ b, x ∈ a := fun x hx => Classical.byContradiction fun hn => by
  have := nodup_len (a := x :: a) (b := b) (by rw [List.nodup_cons]; exact ⟨hn, h⟩) (fun y hy => by
    rcases List.mem_cons.1 hy with rfl | hy
    · exact hx
    · exact hs y hy)
  rw [List.length_cons] at this
  omega
section
variable {ts : List Tri} {l : List Int}
theorem vl_mono (h : LOk ts l) : ∀ f i from_ j, j ∈ vl ts l f i from_ → j ∈ vl ts l (f + 1) i from_
  | 0, i, from_, j, hj => by cases hj
  | f + 1, i, from_, j, hj => by
    rcases (vl_succ h).1 hj with rfl | ⟨c, g0, g1, o, g2, g3, g4, g5⟩
    · exact (vl_succ h).2 (.inl rfl)
    · exact (vl_succ h).2 (.inr ⟨c, g0, g1, o, g2, g3, g4, vl_mono h f o c j g5⟩)
theorem vl_head (h : LOk ts l) (f : Nat) (i from_ : Int) : i ∈ vl ts l (f + 1) i from_ := (vl_succ h).2 (.inl rfl)
theorem vl_near (h : LOk ts l) : ∀ f i from_ j, i ∈ l → j ∈ vl ts l f i from_ → ∀ k, k ∈ l → k ≠ j → ∀ q, q ∈ cor (tI ts j) → q ∈ cor (tI ts k) → k ∈ vl ts l (f + 1) i from_ ∨ (j = i ∧ q = from_)
  | 0, i, from_, j, _, hj, _, _, _, _, _, _ => by cases hj
  | f + 1, i, from_, j, hi, hj, k, hk, hkj, q, hq, hqk => by
    rcases (vl_succ h).1 hj with rfl | ⟨c, g0, g1, o, g2, g3, g4, g5⟩
    · by_cases e : q = from_
      · exact .inr ⟨rfl, e⟩
      · exact .inl ((vl_succ h).2 (.inr ⟨q, hq, e, k, hk, hkj, hqk, vl_head h f k q⟩))
    · rcases vl_near h f o c j g2 g5 k hk hkj q hq hqk with h1 | ⟨h1, h2⟩
      · exact .inl ((vl_succ h).2 (.inr ⟨c, g0, g1, o, g2, g3, g4, h1⟩))
      · subst h2
        by_cases e : k = i
        · subst e; exact .inl (vl_head h _ _ _)
        · exact .inl ((vl_succ h).2 (.inr ⟨q, g0, g1, k, hk, e, hqk, vl_head h f k q⟩))
theorem flat_len {α β : Type} {f : α → List β} : ∀ {L : List α} {x : α}, x ∈ L → (f x).length ≤ (L.flatMap f).length
  | a :: L, x, hx => by
    rw [List.flatMap_cons, List.length_append]
    rcases List.mem_cons.1 hx with rfl | hx
    · omega
    · have := flat_len (f := f) hx
      omega
theorem vl_part (h : LOk ts l) {f : Nat} {i from_ c o : Int} (g0 : c ∈ cor (tI ts i)) (g1 : c ≠ from_) (g2 : o ∈ l) (g3 : o ≠ i) (g4 : c ∈ cor (tI ts o)) : (vl ts l f o c).length + 1 ≤ (vl ts l (f + 1) i from_).length := by
  rw [vl_eq, List.length_cons]
  have h1 := flat_len (f := fun c => if c = from_ then [] else (oth ts l c i).flatMap fun o => vl ts l f o c) g0
  rw [if_neg g1] at h1
  have h2 := flat_len (f := fun o => vl ts l f o c) ((mem_oth h).2 ⟨g2, g3, g4⟩)
  omega
theorem vl_deep (h : LOk ts l) : ∀ f i from_ j, j ∈ vl ts l (f + 1) i from_ → j ∉ vl ts l f i from_ → f + 1 ≤ (vl ts l (f + 1) i from_).length
  | 0, i, from_, j, _, _ => by rw [vl_eq, List.length_cons]; omega
  | f + 1, i, from_, j, hj, hn => by
    rcases (vl_succ h).1 hj with rfl | ⟨c, g0, g1, o, g2, g3, g4, g5⟩
    · exact absurd (vl_head h _ _ _) hn
    · have := vl_deep h f o c j g5 (fun hx => hn ((vl_succ h).2 (.inr ⟨c, g0, g1, o, g2, g3, g4, hx⟩)))
      have := vl_part h (f := f + 1) g0 g1 g2 g3 g4
      omega
theorem vl_le (h : LOk ts l) (f : Nat) {i : Int} (hi : i ∈ l) (from_ : Int) : (vl ts l f i from_).length ≤ l.length := nodup_len (vl_nd h f i from_ hi) (vl_in h f i from_ hi)
theorem vl_closed (h : LOk ts l) {i from_ : Int} (hi : i ∈ l) {j : Int} (hj : j ∈ vl ts l l.length i from_) {k : Int} (hk : k ∈ l) {q : Int} (hq : q ∈ cor (tI ts j)) (hqk : q ∈ cor (tI ts k)) (hf : q ≠ from_) : k ∈ vl ts l l.length i from_ := by
  by_cases e : k = j
  · subst e; exact hj
  · rcases vl_near h _ i from_ j hi hj k hk e q hq hqk with h1 | ⟨_, h2⟩
    · refine Classical.byContradiction fun hn => ?_
      have := vl_deep h _ _ _ _ h1 hn
      have := vl_le h (l.length + 1) hi from_
      omega
    · exact absurd h2 hf
/-- Are all triangles linked with the first one? -/
def Linked (ts : List Tri) (l : List Int) : Prop := ∀ S : Int → Prop, S (l.getD 0 0) → (∀ j ∈ l, S j → ∀ k ∈ l, ∀ q, q ∈ cor (tI ts j) → q ∈ cor (tI ts k) → S k) → ∀ k ∈ l, S k
theorem vl_linked (h : LOk ts l) {S : Int → Prop} (hS : ∀ j ∈ l, S j → ∀ k ∈ l, ∀ q, q ∈ cor (tI ts j) → q ∈ cor (tI ts k) → S k) : ∀ f i from_, i ∈ l → S i → ∀ j ∈ vl ts l f i from_, S j
  | 0, i, from_, _, _, j, hj => by cases hj
  | f + 1, i, from_, hi, hs, j, hj => by
    rcases (vl_succ h).1 hj with rfl | ⟨c, g0, g1, o, g2, g3, g4, g5⟩
    · exact hs
    · exact vl_linked h hS f o c g2 (hS i hi hs o g2 c g0 g4) j g5
theorem first_in (hl : l.length ≠ 0) : l.getD 0 0 ∈ l := by
  cases l with
  | nil => simp at hl
  | cons a l => simp
theorem all_iff (h : LOk ts l) (hc : ∀ j ∈ l, ∀ q ∈ cor (tI ts j), 0 ≤ q) (hl : l.length ≠ 0) : (vl ts l l.length (l.getD 0 0) (-1)).length = l.length ↔ Linked ts l := by
  have h0 := first_in hl
  constructor
  · intro hlen S s0 hS k hk
    exact vl_linked h hS l.length _ (-1) h0 s0 k (nodup_full (vl_nd h l.length (l.getD 0 0) (-1) h0) (vl_in h l.length (l.getD 0 0) (-1) h0) (by rw [hlen]; exact Nat.le_refl _) k hk)
  · intro hL
    have hall : ∀ k ∈ l, k ∈ vl ts l l.length (l.getD 0 0) (-1) := by
      refine hL _ ?_ fun j hj hjv k hk q hq hqk => vl_closed h h0 hjv hk hq hqk (by have := hc j hj q hq; omega)
      obtain ⟨f, hf⟩ : ∃ f, l.length = f + 1 := ⟨l.length - 1, by omega⟩
      rw [hf]
      exact vl_head h f _ _
    have := nodup_len h.nd hall
    have := vl_le h l.length h0 (-1)
    omega

/-! ### two triangles at most -/
def Two (ts : List Tri) (l : List Int) : Prop := ∀ q, ∀ a ∈ l, ∀ b ∈ l, ∀ c ∈ l, q ∈ cor (tI ts a) → q ∈ cor (tI ts b) → q ∈ cor (tI ts c) → a = b ∨ a = c ∨ b = c
theorem mem_cnt (h : LOk ts l) {q o : Int} : o ∈ (linkM ts ts.length q).filter (fun o => decide (o ∈ l)) ↔ o ∈ l ∧ q ∈ cor (tI ts o) := by
  rw [List.mem_filter, linkM_mem h.fp q _ (Nat.le_refl _)]
  simp only [decide_eq_true_eq]
  constructor
  · rintro ⟨⟨m, h1, rfl, h3⟩, h4⟩
    exact ⟨h4, by unfold tI; rw [Int.toNat_natCast]; exact h3⟩
  · rintro ⟨h1, h3⟩
    have := h.rng o h1
    exact ⟨⟨o.toNat, by omega, by omega, h3⟩, h1⟩
theorem cnt_two (h : LOk ts l) {q : Int} : cntL ts l q < 3 ↔ ∀ a ∈ l, ∀ b ∈ l, ∀ c ∈ l, q ∈ cor (tI ts a) → q ∈ cor (tI ts b) → q ∈ cor (tI ts c) → a = b ∨ a = c ∨ b = c := by
  have hnd : ((linkM ts ts.length q).filter (fun o => decide (o ∈ l))).Nodup := (linkM_nd h.fp q _ (Nat.le_refl _)).filter _
  unfold cntL
  constructor
  · intro hl a ha b hb c hc qa qb qc
    refine Classical.byContradiction fun hn => ?_
    have hab : a ≠ b := fun e => hn (.inl e)
    have hac : a ≠ c := fun e => hn (.inr (.inl e))
    have hbc : b ≠ c := fun e => hn (.inr (.inr e))
    have := nodup_len (a := [a, b, c]) (b := (linkM ts ts.length q).filter (fun o => decide (o ∈ l))) (by simp [hab, hac, hbc]) (fun x hx => by
      simp only [List.mem_cons, List.not_mem_nil, or_false] at hx
      rcases hx with rfl | rfl | rfl
      · exact (mem_cnt h).2 ⟨ha, qa⟩
      · exact (mem_cnt h).2 ⟨hb, qb⟩
      · exact (mem_cnt h).2 ⟨hc, qc⟩)
    simp at this
    omega
  · intro ht
    refine Classical.byContradiction fun hn => ?_
    generalize hL : (linkM ts ts.length q).filter (fun o => decide (o ∈ l)) = L at *
    have hm : ∀ x ∈ L, x ∈ l ∧ q ∈ cor (tI ts x) := fun x hx => (mem_cnt h).1 (by rw [hL]; exact hx)
    match L, hnd, hm, hn with
    | a :: b :: c :: L, hnd, hm, _ =>
      have ha := hm a (by simp)
      have hb := hm b (by simp)
      have hc := hm c (by simp)
      simp only [List.nodup_cons, List.mem_cons, not_or] at hnd
      rcases ht a ha.1 b hb.1 c hc.1 ha.2 hb.2 hc.2 with e | e | e
      · exact hnd.1.1 e
      · exact hnd.1.2.1 e
      · exact hnd.2.1.1 e
    | [], _, _, hn => simp at hn
    | [_], _, _, hn => simp at hn
    | [_, _], _, _, hn => simp at hn
theorem two_iff (h : LOk ts l) : (∀ j ∈ l, okJ ts l j = true) ↔ Two ts l := by
  unfold okJ
  simp only [List.all_eq_true, decide_eq_true_eq]
  constructor
  · intro hj q a ha b hb c hc qa qb qc
    exact (cnt_two h).1 (hj a ha q qa) a ha b hb c hc qa qb qc
  · intro ht j hj q hq
    exact (cnt_two h).2 fun a ha b hb c hc => ht q a ha b hb c hc

/-! ### signs -/
theorem vs_succ (h : LOk ts l) {f : Nat} {i sign from_ : Int} {p : Int × Int} : p ∈ vs ts l (f + 1) i sign from_ ↔ p = (i, sign) ∨ ∃ c ∈ cor (tI ts i), c ≠ from_ ∧ ∃ o, o ∈ l ∧ o ≠ i ∧ c ∈ cor (tI ts o) ∧ p ∈ vs ts l f o (turnS (tI ts o) c (sign * coe (tI ts i) c)) c := by
  rw [vs_eq, List.mem_cons, List.mem_flatMap]
  constructor
  · rintro (h1 | ⟨c, h1, h2⟩)
    · exact .inl h1
    · split at h2
      · cases h2
      · rename_i hc
        obtain ⟨o, h3, h4⟩ := List.mem_flatMap.1 h2
        obtain ⟨g1, g2, g3⟩ := (mem_oth h).1 h3
        exact .inr ⟨c, h1, hc, o, g1, g2, g3, h4⟩
  · rintro (h1 | ⟨c, h1, hc, o, g1, g2, g3, h4⟩)
    · exact .inl h1
    · exact .inr ⟨c, h1, by rw [if_neg hc]; exact List.mem_flatMap.2 ⟨o, (mem_oth h).2 ⟨g1, g2, g3⟩, h4⟩⟩
theorem vs_mem {f : Nat} {i sign from_ : Int} {p : Int × Int} (hp : p ∈ vs ts l f i sign from_) : p.1 ∈ vl ts l f i from_ := by
  rw [← vs_fst ts l f i sign]
  exact List.mem_map_of_mem hp
theorem vs_head (h : LOk ts l) {f : Nat} {i sign from_ s : Int} (hi : i ∈ l) (hp : (i, s) ∈ vs ts l f i sign from_) : s = sign := by
  cases f with
  | zero => cases hp
  | succ f =>
    rcases (vs_succ h).1 hp with e | ⟨c, g0, g1, o, g2, g3, g4, g5⟩
    · exact (Prod.mk.inj e).2
    · exact absurd rfl (vl_ne h f i o c hi g2 g3 g0 g4 i (vs_mem g5))
theorem turn_one {t : Tri} {c own : Int} (hown : own = 1 ∨ own = -1) : turnS t c own = 1 ∨ turnS t c own = -1 := by
  unfold turnS
  split <;> rcases hown with h | h <;> simp [h]
theorem sign_one {t : Tri} {c s : Int} (hs : s = 1 ∨ s = -1) (hc : c ∈ cor t) : s * coe t c = 1 ∨ s * coe t c = -1 := by
  have h1 := coe_cor.2 hc
  rcases coe_one t c with e | e | e
  · rw [e]; rcases hs with h | h <;> simp [h]
  · rw [e]; rcases hs with h | h <;> simp [h]
  · exact absurd e h1
theorem vs_one (h : LOk ts l) : ∀ f i sign from_, (sign = 1 ∨ sign = -1) → ∀ p ∈ vs ts l f i sign from_, p.2 = 1 ∨ p.2 = -1
  | 0, i, sign, from_, _, p, hp => by cases hp
  | f + 1, i, sign, from_, hs, p, hp => by
    rcases (vs_succ h).1 hp with rfl | ⟨c, g0, g1, o, g2, g3, g4, g5⟩
    · exact hs
    · exact vs_one h f o _ c (turn_one (sign_one hs g0)) p g5
theorem turn_coe (h : LOk ts l) {o : Int} (ho : o ∈ l) {c own : Int} (hc : c ∈ cor (tI ts o)) : turnS (tI ts o) c own = -own * coe (tI ts o) c := by
  have hor := h.rng o ho
  have hne := fps_ne h.fp (by omega : o.toNat < ts.length)
  change (tI ts o).1 ≠ (tI ts o).2.1 ∧ (tI ts o).1 ≠ (tI ts o).2.2 ∧ (tI ts o).2.1 ≠ (tI ts o).2.2 at hne
  unfold turnS coe
  by_cases e : (tI ts o).2.2 = c
  · rw [if_pos e, if_neg (by rintro (k | k); exact hne.2.1 (by rw [e]; exact k.symm); exact hne.2.2 (by rw [e]; exact k.symm)), if_pos e.symm]
    omega
  · have : c = (tI ts o).1 ∨ c = (tI ts o).2.1 := by
      simp only [cor, List.mem_cons, List.not_mem_nil, or_false] at hc
      rcases hc with k | k | k
      · exact .inl k
      · exact .inr k
      · exact absurd k.symm e
    rw [if_neg e, if_pos this]
    omega
theorem coe_sq {t : Tri} {c : Int} (hc : c ∈ cor t) : coe t c * coe t c = 1 := by
  have h1 := coe_cor.2 hc
  rcases coe_one t c with e | e | e
  · rw [e]; rfl
  · rw [e]; rfl
  · exact absurd e h1
theorem vs_cancel (h : LOk ts l) (hT : Two ts l) : ∀ f i sign from_, i ∈ l → ∀ p ∈ vs ts l f i sign from_, ∀ p' ∈ vs ts l f i sign from_, p.1 ≠ p'.1 → ∀ q, q ∈ cor (tI ts p.1) → q ∈ cor (tI ts p'.1) → p'.2 = -(p.2 * coe (tI ts p.1) q) * coe (tI ts p'.1) q
  | 0, i, sign, from_, _, p, hp, _, _, _, _, _, _ => by cases hp
  | f + 1, i, sign, from_, hi, p, hp, p', hp', hne, q, hq, hq' => by
    have root : ∀ {c o : Int} {r : Int × Int}, c ∈ cor (tI ts i) → o ∈ l → o ≠ i → c ∈ cor (tI ts o) → r ∈ vs ts l f o (turnS (tI ts o) c (sign * coe (tI ts i) c)) c → q ∈ cor (tI ts i) → q ∈ cor (tI ts r.1) → r.1 ≠ i → r.2 = -(sign * coe (tI ts i) q) * coe (tI ts r.1) q := fun {c o r} g0 g2 g3 g4 g5 hqi hqr hri => by
      have hm := vs_mem g5
      have hcq := far_eq h hi g0 hqi (vl_far h hi g2 g3 g0 g4 hm hqr)
      subst hcq
      have hrl := vl_in h f o c g2 _ hm
      have hor : o = r.1 := by
        rcases hT c i hi o g2 r.1 hrl hqi g4 hqr with e | e | e
        · exact absurd e.symm g3
        · exact absurd e.symm hri
        · exact e
      obtain ⟨a, b⟩ := r
      dsimp only at *
      subst hor
      rw [vs_head h g2 g5, turn_coe h g2 g4]
    rcases (vs_succ h).1 hp with rfl | ⟨c, g0, g1, o, g2, g3, g4, g5⟩
    · rcases (vs_succ h).1 hp' with rfl | ⟨c', k0, k1, o', k2, k3, k4, k5⟩
      · exact absurd rfl hne
      · exact root k0 k2 k3 k4 k5 hq hq' (Ne.symm hne)
    · rcases (vs_succ h).1 hp' with rfl | ⟨c', k0, k1, o', k2, k3, k4, k5⟩
      · have e := root g0 g2 g3 g4 g5 hq' hq hne
        have s1 := coe_sq hq
        have s2 := coe_sq hq'
        dsimp only at e ⊢
        rw [e]
        generalize coe (tI ts p.1) q = a at *
        generalize coe (tI ts i) q = b at *
        have : -(-(sign * b) * a * a) * b = sign * (b * b) * (a * a) := by grind
        rw [this, s1, s2]
        omega
      · by_cases ec : c = c'
        · subst ec
          by_cases eo : o = o'
          · subst eo
            exact vs_cancel h hT f o _ c g2 p g5 p' k5 hne q hq hq'
          · rcases hT c i hi o g2 o' k2 g0 g4 k4 with e | e | e
            · exact absurd e.symm g3
            · exact absurd e.symm k3
            · exact absurd e eo
        · have a1 := vl_far h hi g2 g3 g0 g4 (vs_mem g5) hq
          have a2 := vl_far h hi k2 k3 k0 k4 (vs_mem k5) hq'
          exact absurd (far_eq h hi g0 k0 (a1.trans a2.symm)) ec
end

end Go.Proofs.Ytlbhnicengolfaa

/-! ## DfsE: Groups: the equation that group returns, for any list of triangles of a valid net. -/
namespace Go.Proofs.Ytlbhnicengolfaa
open Go.RowKit
set_option linter.unusedVariables false
set_option linter.unusedSimpArgs false

/-- The sum of triangles, each with a sign, at a quantity. -/
def sumS (ts : List Tri) (s : Int → Int) : List Int → Int → Int
  | [], _ => 0
  | j :: l, q => s j * coe (tI ts j) q + sumS ts s l q
theorem sumS_cons (ts : List Tri) (s : Int → Int) (j : Int) (l : List Int) (q : Int) : sumS ts s (j :: l) q = s j * coe (tI ts j) q + sumS ts s l q := rfl
theorem sumS_perm {ts : List Tri} {s : Int → Int} {a b : List Int} (h : a.Perm b) (q : Int) : sumS ts s a q = sumS ts s b q := by
  induction h with
  | nil => rfl
  | cons x _ ih => rw [sumS_cons, sumS_cons, ih]
  | swap x y l => rw [sumS_cons, sumS_cons, sumS_cons, sumS_cons]; omega
  | trans _ _ h1 h2 => rw [h1, h2]
theorem sumS_congr {ts : List Tri} {s s' : Int → Int} (q : Int) : ∀ {l : List Int}, (∀ j ∈ l, s j = s' j) → sumS ts s l q = sumS ts s' l q
  | [], _ => rfl
  | j :: l, h => by rw [sumS_cons, sumS_cons, h j (by simp), sumS_congr q fun k hk => h k (by simp [hk])]
theorem sumS_none {ts : List Tri} {s : Int → Int} {q : Int} : ∀ {l : List Int}, (∀ j ∈ l, q ∉ cor (tI ts j)) → sumS ts s l q = 0
  | [], _ => rfl
  | j :: l, h => by
    have : coe (tI ts j) q = 0 := Classical.byContradiction fun hn => h j (by simp) (coe_cor.1 hn)
    rw [sumS_cons, sumS_none fun k hk => h k (by simp [hk]), this]
    simp
structure SignOk (ts : List Tri) (l : List Int) (s : Int → Int) : Prop where
  one : ∀ j ∈ l, s j = 1 ∨ s j = -1
  first : s (l.getD 0 0) = 1
  can : ∀ j ∈ l, ∀ k ∈ l, j ≠ k → ∀ q, q ∈ cor (tI ts j) → q ∈ cor (tI ts k) → s k = -(s j * coe (tI ts j) q) * coe (tI ts k) q
theorem SignOk.uniq {ts : List Tri} {l : List Int} {s s' : Int → Int} (h : SignOk ts l s) (h' : SignOk ts l s') (hL : Linked ts l) : ∀ j ∈ l, s j = s' j :=
  hL (fun j => s j = s' j) (by rw [h.first, h'.first]) fun j hj e k hk q hq hqk => by
    by_cases e2 : j = k
    · subst e2; exact e
    · rw [h.can j hj k hk e2 q hq hqk, h'.can j hj k hk e2 q hq hqk, e]
/-- Of a group each quantity has 1, -1 or 0. -/
theorem sumS_one {ts : List Tri} {s : Int → Int} {q : Int} : ∀ {l : List Int}, l.Nodup → (∀ j ∈ l, s j = 1 ∨ s j = -1) → (∀ j ∈ l, ∀ k ∈ l, j ≠ k → q ∈ cor (tI ts j) → q ∈ cor (tI ts k) → s k = -(s j * coe (tI ts j) q) * coe (tI ts k) q) →
    (∀ a ∈ l, ∀ b ∈ l, ∀ c ∈ l, q ∈ cor (tI ts a) → q ∈ cor (tI ts b) → q ∈ cor (tI ts c) → a = b ∨ a = c ∨ b = c) →
    (sumS ts s l q = 1 ∨ sumS ts s l q = -1 ∨ sumS ts s l q = 0) ∧ ((∃ j ∈ l, q ∈ cor (tI ts j) ∧ ∀ k ∈ l, q ∈ cor (tI ts k) → k = j) → sumS ts s l q ≠ 0)
  | [], _, _, _, _ => ⟨.inr (.inr rfl), by rintro ⟨j, hj, _⟩; cases hj⟩
  | j :: l, hnd, h1, hc, ht => by
    rw [List.nodup_cons] at hnd
    have hone : ∀ {j}, (s j = 1 ∨ s j = -1) → q ∈ cor (tI ts j) → s j * coe (tI ts j) q = 1 ∨ s j * coe (tI ts j) q = -1 := fun h hq => sign_one h hq
    rw [sumS_cons]
    by_cases hq : q ∈ cor (tI ts j)
    · by_cases hex : ∃ k ∈ l, q ∈ cor (tI ts k)
      · obtain ⟨k, hk, hqk⟩ := hex
        have hjk : j ≠ k := fun e => hnd.1 (by rw [e]; exact hk)
        -- the two cancel, and there is no third one
        have hz : sumS ts s l q = s k * coe (tI ts k) q := by
          obtain ⟨a, b, rfl⟩ := List.append_of_mem hk
          have hnd2 := hnd.2
          have hp : sumS ts s (a ++ k :: b) q = sumS ts s (k :: (a ++ b)) q := sumS_perm List.perm_middle q
          rw [hp, sumS_cons, sumS_none fun m hm => ?_]
          · omega
          · intro hqm
            have hmem : m ∈ a ++ k :: b := by
              rcases List.mem_append.1 hm with hm | hm
              · exact List.mem_append_left _ hm
              · exact List.mem_append_right _ (List.mem_cons_of_mem _ hm)
            have hmk : m ≠ k := by
              rintro rfl
              have := (List.perm_middle (a := m) (l₁ := a) (l₂ := b)).nodup_iff.1 hnd2
              rw [List.nodup_cons] at this
              exact this.1 hm
            have hmj : m ≠ j := fun e => hnd.1 (by rw [← e]; exact hmem)
            rcases ht j (by simp) k (List.mem_cons_of_mem _ hk) m (List.mem_cons_of_mem _ hmem) hq hqk hqm with e | e | e
            · exact hjk e
            · exact hmj e.symm
            · exact hmk e.symm
        have hcan := hc j (by simp) k (List.mem_cons_of_mem _ hk) hjk hq hqk
        have hs := coe_sq hqk
        have hsum : s j * coe (tI ts j) q + s k * coe (tI ts k) q = 0 := by
          rw [hcan]
          generalize s j * coe (tI ts j) q = u at *
          generalize coe (tI ts k) q = v at *
          have : -u * v * v = -u * (v * v) := by grind
          rw [this, hs]
          omega
        rw [hz, hsum]
        refine ⟨.inr (.inr rfl), ?_⟩
        rintro ⟨m, hm, hqm, hu⟩
        exact absurd ((hu j (by simp) hq).trans (hu k (List.mem_cons_of_mem _ hk) hqk).symm) hjk
      · rw [sumS_none fun k hk hqk => hex ⟨k, hk, hqk⟩]
        rcases hone (h1 j (by simp)) hq with e | e
        · rw [e]; exact ⟨.inl rfl, fun _ => by decide⟩
        · rw [e]; exact ⟨.inr (.inl rfl), fun _ => by decide⟩
    · have hz : coe (tI ts j) q = 0 := Classical.byContradiction fun hn => hq (coe_cor.1 hn)
      rw [hz]
      obtain ⟨i1, i2⟩ := sumS_one hnd.2 (fun k hk => h1 k (by simp [hk])) (fun a ha b hb => hc a (by simp [ha]) b (by simp [hb])) (fun a ha b hb c hc => ht a (by simp [ha]) b (by simp [hb]) c (by simp [hc]))
      refine ⟨by simpa using i1, fun hx => ?_⟩
      obtain ⟨m, hm, hqm, hu⟩ := hx
      have := i2 ⟨m, (List.mem_cons.1 hm).resolve_left (fun e => hq (by rw [← e]; exact hqm)), hqm, fun k hk => hu k (by simp [hk])⟩
      simpa using this
section
variable {ts : List Tri} {l : List Int}
/-- Some quantity is in one triangle alone. -/
theorem end_ex (h : LOk ts l) (hl : l.length ≠ 0) : ∃ j ∈ l, ∃ q ∈ cor (tI ts j), ∀ k ∈ l, q ∈ cor (tI ts k) → k = j := by
  refine Classical.byContradiction fun hn => ?_
  have hall : ∀ j ∈ l, ∀ q ∈ cor (tI ts j), ∃ k ∈ l, k ≠ j ∧ q ∈ cor (tI ts k) := fun j hj q hq => Classical.byContradiction fun hx => hn ⟨j, hj, q, hq, fun k hk hqk => Classical.byContradiction fun e => hx ⟨k, hk, e, hqk⟩⟩
  have hlong : ∀ f i from_, i ∈ l → f ≤ (vl ts l f i from_).length := by
    intro f
    induction f with
    | zero => intro i from_ _; omega
    | succ f ih =>
      intro i from_ hi
      have hir := h.rng i hi
      have hne := fps_ne h.fp (by omega : i.toNat < ts.length)
      change (tI ts i).1 ≠ (tI ts i).2.1 ∧ (tI ts i).1 ≠ (tI ts i).2.2 ∧ (tI ts i).2.1 ≠ (tI ts i).2.2 at hne
      obtain ⟨c, hc, hcf⟩ : ∃ c ∈ cor (tI ts i), c ≠ from_ := by
        by_cases e : (tI ts i).1 = from_
        · exact ⟨(tI ts i).2.1, by simp [cor], fun e2 => hne.1 (e.trans e2.symm)⟩
        · exact ⟨(tI ts i).1, by simp [cor], e⟩
      obtain ⟨k, hk, hki, hck⟩ := hall i hi c hc
      have := ih k c hk
      have := vl_part h (f := f) hc hcf hk hki hck
      omega
  have h0 := first_in hl
  have a := hlong (l.length + 1) _ (-1) h0
  have b := vl_le h (l.length + 1) h0 (-1)
  omega
def sgF (R : List (Int × Int)) (j : Int) : Int := ((R.find? fun p => p.1 == j).map Prod.snd).getD 0
theorem sgF_mem : ∀ {R : List (Int × Int)}, (R.map Prod.fst).Nodup → ∀ {j s}, (j, s) ∈ R → sgF R j = s
  | [], _, j, s, h => by cases h
  | (k, t) :: R, hnd, j, s, h => by
    rw [List.map_cons, List.nodup_cons] at hnd
    unfold sgF
    rw [List.find?_cons]
    by_cases e : k = j
    · subst e
      simp only [beq_self_eq_true]
      rcases List.mem_cons.1 h with e2 | h
      · cases e2; rfl
      · exact absurd (List.mem_map_of_mem (f := Prod.fst) h) hnd.1
    · have : (k == j) = false := beq_eq_false_iff_ne.2 e
      simp only [this]
      rcases List.mem_cons.1 h with e2 | h
      · cases e2; exact absurd rfl e
      · exact sgF_mem hnd.2 h
theorem sumC_S {s : Int → Int} (q : Int) : ∀ {R : List (Int × Int)}, (∀ p ∈ R, s p.1 = p.2) → sumC ts R q = sumS ts s (R.map Prod.fst) q
  | [], _ => rfl
  | (j, t) :: R, h => by
    rw [List.map_cons, sumS_cons]
    show t * coe (tI ts j) q + sumC ts R q = _
    rw [sumC_S q fun p hp => h p (by simp [hp]), h (j, t) (by simp)]
/-- What group reckons. -/
structure GrpIs (ts : List Tri) (l : List Int) (N : Nat) (s : Int → Int) : Prop where
  sg : SignOk ts l s
  len : (grpS ts l N).out.length = N
  out : ∀ q : Nat, q < N → (grpS ts l N).out.getD q 0 = sumS ts s l q
  one : ∀ q : Nat, q < N → sumS ts s l q = 1 ∨ sumS ts s l q = -1 ∨ sumS ts s l q = 0
  nz : nzIdx (grpS ts l N).out < N
theorem grp_ef (h : LOk ts l) (hl : l.length ≠ 0) {N : Nat} (hin : ∀ t ∈ ts, ∀ o ∈ cor t, 0 ≤ o ∧ o < (N : Int)) : Ef ts l ⟨List.replicate N 0, (l.length : Int), true⟩ (fun _ => 0) 0 (vs ts l l.length (l.getD 0 0) 1 (-1)) true (grpS ts l N) := by
  have h0 := first_in hl
  unfold grpS
  exact vg_ef h hin l.length (l.getD 0 0) 1 (-1) _ h0 (.inl rfl) (by simp) (by rw [vs_len]; have := vl_le h l.length h0 (-1); show ((vl ts l l.length (l.getD 0 0) (-1)).length : Int) ≤ (l.length : Int); omega)
theorem grp_yes (h : LOk ts l) (hl : l.length ≠ 0) {N : Nat} (hin : ∀ t ∈ ts, ∀ o ∈ cor t, 0 ≤ o ∧ o < (N : Int)) : ((grpS ts l N).good = true ∧ (grpS ts l N).left = 0) ↔ Two ts l ∧ Linked ts l := by
  have h0 := first_in hl
  have he := grp_ef h hl hin
  have hcor : ∀ j ∈ l, ∀ q ∈ cor (tI ts j), 0 ≤ q := fun j hj q hq => by
    have hjr := h.rng j hj
    exact (hin (tI ts j) (by unfold tI; rw [tri_eq (by omega)]; exact List.getElem_mem _) q hq).1
  have hai := all_iff h hcor hl
  have hle : (grpS ts l N).left = 0 ↔ (vl ts l l.length (l.getD 0 0) (-1)).length = l.length := by
    rw [he.left, vs_len]
    show (l.length : Int) - ((vl ts l l.length (l.getD 0 0) (-1)).length : Int) = 0 ↔ _
    omega
  rw [hle, hai, he.good, ← two_iff h]
  simp only [Bool.true_and, List.all_eq_true]
  constructor
  · rintro ⟨h1, h2⟩
    refine ⟨fun j hj => ?_, h2⟩
    have hm := nodup_full (vl_nd h l.length (l.getD 0 0) (-1) h0) (vl_in h l.length (l.getD 0 0) (-1) h0) (by rw [hai.2 h2]; exact Nat.le_refl _) j hj
    rw [← vs_fst ts l l.length (l.getD 0 0) 1] at hm
    obtain ⟨p, hp, rfl⟩ := List.mem_map.1 hm
    exact h1 p hp
  · rintro ⟨h1, h2⟩
    exact ⟨fun p hp => h1 p.1 (vl_in h _ _ _ h0 _ (vs_mem hp)), h2⟩
theorem grp_is (h : LOk ts l) (hl : l.length ≠ 0) {N : Nat} (hN : N ≤ 1000) (hl5 : l.length ≤ 1000) (hin : ∀ t ∈ ts, ∀ o ∈ cor t, 0 ≤ o ∧ o < (N : Int)) (hT : Two ts l) (hL : Linked ts l) : ∃ s, GrpIs ts l N s := by
  have h0 := first_in hl
  have he := grp_ef h hl hin
  have hcor : ∀ j ∈ l, ∀ q ∈ cor (tI ts j), 0 ≤ q ∧ q < (N : Int) := fun j hj q hq => by
    have hjr := h.rng j hj
    exact hin (tI ts j) (by unfold tI; rw [tri_eq (by omega)]; exact List.getElem_mem _) q hq
  have hlen := (all_iff h (fun j hj q hq => (hcor j hj q hq).1) hl).2 hL
  have hall := nodup_full (vl_nd h l.length (l.getD 0 0) (-1) h0) (vl_in h l.length (l.getD 0 0) (-1) h0) (by rw [hlen]; exact Nat.le_refl _)
  have hfst := vs_fst ts l l.length (l.getD 0 0) 1 (-1)
  have hnd : ((vs ts l l.length (l.getD 0 0) 1 (-1)).map Prod.fst).Nodup := by rw [hfst]; exact vl_nd h _ _ _ h0
  have hvlen := vs_len ts l l.length (l.getD 0 0) 1 (-1)
  have hone := vs_one h l.length (l.getD 0 0) 1 (-1) (.inl rfl)
  have hcan := vs_cancel h hT l.length (l.getD 0 0) 1 (-1) h0
  have hhead : (l.getD 0 0, (1 : Int)) ∈ vs ts l l.length (l.getD 0 0) 1 (-1) := by
    obtain ⟨f, hf⟩ : ∃ f, l.length = f + 1 := ⟨l.length - 1, by omega⟩
    rw [hf]
    exact (vs_succ h).2 (.inl rfl)
  generalize vs ts l l.length (l.getD 0 0) 1 (-1) = R at *
  have hex : ∀ j ∈ l, ∃ t, (j, t) ∈ R := fun j hj => by
    have hm := hall j hj
    rw [← hfst] at hm
    obtain ⟨p, hp, rfl⟩ := List.mem_map.1 hm
    exact ⟨p.2, hp⟩
  have hsg : SignOk ts l (sgF R) := by
    refine ⟨fun j hj => ?_, sgF_mem hnd hhead, fun j hj k hk hjk q hq hqk => ?_⟩
    · obtain ⟨t, ht⟩ := hex j hj
      rw [sgF_mem hnd ht]
      exact hone _ ht
    · obtain ⟨t, ht⟩ := hex j hj
      obtain ⟨t', ht'⟩ := hex k hk
      rw [sgF_mem hnd ht, sgF_mem hnd ht']
      exact hcan _ ht _ ht' hjk q hq hqk
  have hperm : (R.map Prod.fst).Perm l := by
    rw [hfst]
    exact (List.perm_ext_iff_of_nodup (vl_nd h _ _ _ h0) h.nd).2 fun x => ⟨vl_in h _ _ _ h0 x, hall x⟩
  have hlenO : (grpS ts l N).out.length = N := by rw [he.len]; simp
  have hout : ∀ q : Nat, q < N → (grpS ts l N).out.getD q 0 = sumS ts (sgF R) l q := fun q hq => by
    have hb := (he.out 0 (fun i => by
      show -0 ≤ (List.replicate N 0).getD i 0 ∧ _
      rw [List.getD_eq_getElem?_getD, List.getElem?_replicate]
      split <;> simp) (Int.le_refl _) (by rw [hvlen, hlen]; omega)).2 (q : Int) (by omega) (by show (q : Int) < ((List.replicate N (0 : Int)).length : Int); simp; omega)
    rw [Int.toNat_natCast] at hb
    rw [hb, sumC_S (s := sgF R) (q : Int) (fun p hp => sgF_mem hnd hp), sumS_perm hperm]
    show (List.replicate N (0 : Int)).getD q 0 + 0 + _ = _
    rw [List.getD_eq_getElem?_getD, List.getElem?_replicate]
    split <;> simp
  have hsone := fun q => sumS_one (ts := ts) (s := sgF R) (q := q) h.nd hsg.one (fun j hj k hk e hq hqk => hsg.can j hj k hk e q hq hqk) (hT q)
  refine ⟨sgF R, hsg, hlenO, hout, fun q _ => (hsone q).1, ?_⟩
  obtain ⟨j, hj, q, hq, hu⟩ := end_ex h hl
  have hqr := hcor j hj q hq
  have hne := (hsone q).2 ⟨j, hj, hq, hu⟩
  have hq' := hout q.toNat (by omega)
  rw [Int.toNat_of_nonneg hqr.1] at hq'
  have hlt : q.toNat < (grpS ts l N).out.length := by omega
  have hg : (grpS ts l N).out[q.toNat] = (grpS ts l N).out.getD q.toNat 0 := by simp [List.getD, hlt]
  have hf := List.findIdx_lt_length_of_exists (xs := (grpS ts l N).out) (p := fun c => c != 0) ⟨(grpS ts l N).out[q.toNat], List.getElem_mem hlt, by rw [hg, hq', bne_iff_ne]; exact hne⟩
  unfold nzIdx
  omega
end

end Go.Proofs.Ytlbhnicengolfaa
