/-
  The reference of total: its equations are those of group. The reference of total: its signs are those with which common quantities cancel. The reference of total: equation is group.
-/
import Derived.Test.YtlbhnicengolfaaRefL
/-! ## RefT: The reference of total: its equations are those of group. -/
namespace Go.Proofs.Ytlbhnicengolfaa
open Go.RowKit
set_option linter.unusedVariables false
set_option linter.unusedSimpArgs false

theorem mem_bitsK {set T : Nat} {x : Int} : x ∈ bitsK set T ↔ ∃ k : Nat, k < T ∧ set.testBit k = true ∧ x = (k : Int) := by
  unfold bitsK
  rw [List.mem_map]
  constructor
  · rintro ⟨k, hk, rfl⟩
    obtain ⟨h1, h2⟩ := List.mem_filter.1 hk
    exact ⟨k, List.mem_range.1 h1, h2, rfl⟩
  · rintro ⟨k, h1, h2, rfl⟩
    exact ⟨k, List.mem_filter.2 ⟨List.mem_range.2 h1, h2⟩, rfl⟩
theorem bitsK_nd (set : Nat) : ∀ T, (bitsK set T).Nodup
  | 0 => by simp [bitsK]
  | k + 1 => by
    cases hb : set.testBit k with
    | false => rw [bitsK_no hb]; exact bitsK_nd set k
    | true =>
      rw [bitsK_yes hb, List.nodup_append]
      refine ⟨bitsK_nd set k, by simp, fun a ha b hb' => ?_⟩
      rw [List.mem_singleton] at hb'
      have := (bitsK_in a ha).2
      omega
theorem rCnt_succ (ts : List Tri) (set q k : Nat) : rCnt ts set q (k + 1) = rCnt ts set q k + (if set.testBit k = true ∧ coe (tri ts k) (q : Int) ≠ 0 then 1 else 0) := rfl
/-! ### counts -/
def cntK (ts : List Tri) (set q k : Nat) : List Int := (bitsK set k).filter fun j => decide ((q : Int) ∈ cor (tI ts j))
theorem cntK_len (ts : List Tri) (set q : Nat) : ∀ k, (cntK ts set q k).length = rCnt ts set q k
  | 0 => rfl
  | k + 1 => by
    have ih := cntK_len ts set q k
    rw [rCnt_succ]
    unfold cntK at *
    cases hb : set.testBit k with
    | false =>
      rw [bitsK_no hb, ih, if_neg (fun h => by cases h.1)]
      rfl
    | true =>
      rw [bitsK_yes hb, List.filter_append, List.length_append, ih]
      have e : tI ts (k : Int) = tri ts k := by unfold tI; rw [Int.toNat_natCast]
      by_cases hc : (q : Int) ∈ cor (tri ts k)
      · rw [if_pos ⟨rfl, coe_cor.2 hc⟩]
        simp [e, hc]
      · rw [if_neg (fun h => hc (coe_cor.1 h.2))]
        simp [e, hc]
section
variable {ts : List Tri} {set N : Nat}
theorem two_cnt (h : LOk ts (bitsK set ts.length)) (hin : ∀ t ∈ ts, ∀ o ∈ cor t, 0 ≤ o ∧ o < (N : Int)) : (List.range N).all (fun q => decide (rCnt ts set q ts.length ≤ 2)) = true ↔ Two ts (bitsK set ts.length) := by
  have hcq : ∀ q : Nat, rCnt ts set q ts.length ≤ 2 ↔ cntL ts (bitsK set ts.length) (q : Int) < 3 := fun q => by
    have hn1 : (cntK ts set q ts.length).Nodup := (bitsK_nd set ts.length).filter _
    have hn2 : ((linkM ts ts.length (q : Int)).filter (fun o => decide (o ∈ bitsK set ts.length))).Nodup := (linkM_nd h.fp _ _ (Nat.le_refl _)).filter _
    have hm : ∀ x, x ∈ cntK ts set q ts.length ↔ x ∈ (linkM ts ts.length (q : Int)).filter (fun o => decide (o ∈ bitsK set ts.length)) := fun x => by
      rw [mem_cnt h]
      unfold cntK
      rw [List.mem_filter, decide_eq_true_iff]
    have h1 := nodup_len hn1 fun x hx => (hm x).1 hx
    have h2 := nodup_len hn2 fun x hx => (hm x).2 hx
    rw [cntK_len] at h1 h2
    unfold cntL
    omega
  simp only [List.all_eq_true, List.mem_range, decide_eq_true_eq]
  constructor
  · intro hq q a ha b hb c hc qa qb qc
    have har := h.rng a ha
    have hqr := hin (tI ts a) (by unfold tI; rw [tri_eq (by omega)]; exact List.getElem_mem _) q qa
    have := (hcq q.toNat).1 (hq q.toNat (by omega))
    rw [Int.toNat_of_nonneg hqr.1] at this
    exact (cnt_two h).1 this a ha b hb c hc qa qb qc
  · intro ht q _
    exact (hcq q).2 ((cnt_two h).2 fun a ha b hb c hc => ht _ a ha b hb c hc)

/-! ### the loops keep what holds, and come to all that is linked -/
/-- What one step may do. -/
def Keeps (P : List Int → Prop) (ts : List Tri) (set : Nat) : Prop := ∀ o i k q, P o → o.getD i 0 ≠ 0 → o.getD k 0 = 0 → set.testBit k = true → coe (tri ts i) ((q : Nat) : Int) ≠ 0 → coe (tri ts k) (q : Int) ≠ 0 → P (o.set k (-(o.getD i 0) * coe (tri ts i) (q : Int) * coe (tri ts k) (q : Int)))
theorem rQs_keep {P : List Int → Prop} (h : Keeps P ts set) {i k : Nat} {o : List Int} (ho : P o) : ∀ q, P (rQs ts set i k o q)
  | 0 => ho
  | q + 1 => by
    have ih := rQs_keep h (i := i) (k := k) ho q
    show P (rQ ts set i k (rQs ts set i k o q) q)
    unfold rQ
    split
    · rename_i hc
      exact h _ i k q ih hc.1 hc.2.1 hc.2.2.1 hc.2.2.2.1 hc.2.2.2.2
    · exact ih
theorem rKs_keep {P : List Int → Prop} (h : Keeps P ts set) {i : Nat} {o : List Int} (ho : P o) : ∀ k, P (rKs ts N set i o k)
  | 0 => ho
  | k + 1 => rQs_keep h (rKs_keep h ho k) N
theorem rIs_keep {P : List Int → Prop} (h : Keeps P ts set) {T : Nat} {o : List Int} (ho : P o) : ∀ i, P (rIs ts N T set o i)
  | 0 => ho
  | i + 1 => rKs_keep h (rIs_keep h ho i) T
theorem rRs_keep {P : List Int → Prop} (h : Keeps P ts set) {T : Nat} {o : List Int} (ho : P o) : ∀ r, P (rRs ts N T set o r)
  | 0 => ho
  | r + 1 => rIs_keep h (rRs_keep h ho r) T
theorem keep_nz (j : Nat) : Keeps (fun o => o.getD j 0 ≠ 0) ts set := fun o i k q hj _ hk _ _ _ => by
  have hj : o.getD j 0 ≠ 0 := hj
  show (o.set k _).getD j 0 ≠ 0
  rw [List.getD_eq_getElem?_getD, List.getElem?_set]
  have hne : k ≠ j := fun e => hj (by rw [← e]; exact hk)
  rw [if_neg hne, ← List.getD_eq_getElem?_getD]
  exact hj
theorem rQs_reach {i k : Nat} {o : List Int} (hk : k < o.length) (hi : o.getD i 0 ≠ 0) (hb : set.testBit k = true) {q : Nat} (h1 : coe (tri ts i) (q : Int) ≠ 0) (h2 : coe (tri ts k) (q : Int) ≠ 0) (hlen : ∀ m, (rQs ts set i k o m).length = o.length) : ∀ m, q < m → (rQs ts set i k o m).getD k 0 ≠ 0
  | 0, h => by omega
  | m + 1, h => by
    by_cases e : q < m
    · have ih := rQs_reach hk hi hb h1 h2 hlen m e
      show (rQ ts set i k (rQs ts set i k o m) m).getD k 0 ≠ 0
      unfold rQ
      rw [if_neg (fun hx => ih hx.2.1)]
      exact ih
    · obtain rfl : q = m := by omega
      show (rQ ts set i k (rQs ts set i k o q) q).getD k 0 ≠ 0
      have hi2 : (rQs ts set i k o q).getD i 0 ≠ 0 := rQs_keep (keep_nz i) hi q
      unfold rQ
      by_cases hz : (rQs ts set i k o q).getD k 0 = 0
      · rw [if_pos ⟨hi2, hz, hb, h1, h2⟩, List.getD_eq_getElem?_getD, List.getElem?_set, if_pos rfl, if_pos (by rw [hlen]; exact hk)]
        show -((rQs ts set i k o q).getD i 0) * coe (tri ts i) (q : Int) * coe (tri ts k) (q : Int) ≠ 0
        exact Int.mul_ne_zero (Int.mul_ne_zero (by omega) h1) h2
      · rw [if_neg (fun hx => hz hx.2.1)]
        exact hz
theorem round_reach {T : Nat} {o : List Int} (ho : One3 o) (hl : o.length = T) {i k : Nat} (hiT : i < T) (hkT : k < T) (hi : o.getD i 0 ≠ 0) (hb : set.testBit k = true) {q : Nat} (hq : q < N) (h1 : coe (tri ts i) (q : Int) ≠ 0) (h2 : coe (tri ts k) (q : Int) ≠ 0) : (rIs ts N T set o T).getD k 0 ≠ 0 := by
  have hi1 : (rIs ts N T set o i).getD i 0 ≠ 0 := rIs_keep (keep_nz i) hi i
  have o1 := rIs_ok (ts := ts) (N := N) (T := T) (set := set) ho i
  have hi2 : (rKs ts N set i (rIs ts N T set o i) k).getD i 0 ≠ 0 := rKs_keep (keep_nz i) hi1 k
  have o2 := rKs_ok (ts := ts) (N := N) (set := set) (i := i) o1.1 k
  have hk1 : (rKs ts N set i (rIs ts N T set o i) (k + 1)).getD k 0 ≠ 0 := rQs_reach (by rw [o2.2, o1.2, hl]; exact hkT) hi2 hb h1 h2 (fun m => (rQs_ok o2.1 m).2) N hq
  have more : ∀ m, k + 1 ≤ m → (rKs ts N set i (rIs ts N T set o i) m).getD k 0 ≠ 0 := fun m hm => by
    obtain ⟨d, rfl⟩ : ∃ d, m = k + 1 + d := ⟨m - (k + 1), by omega⟩
    clear hm
    induction d with
    | zero => exact hk1
    | succ d ih => exact rQs_keep (keep_nz k) ih N
  have hI1 : (rIs ts N T set o (i + 1)).getD k 0 ≠ 0 := more T (by omega)
  have more2 : ∀ d, (rIs ts N T set o (i + 1 + d)).getD k 0 ≠ 0 := fun d => by
    induction d with
    | zero => exact hI1
    | succ d ih => exact rKs_keep (keep_nz k) ih T
  have := more2 (T - (i + 1))
  rwa [show i + 1 + (T - (i + 1)) = T by omega] at this
end

end Go.Proofs.Ytlbhnicengolfaa

/-! ## RefU: The reference of total: its signs are those with which common quantities cancel. -/
namespace Go.Proofs.Ytlbhnicengolfaa
open Go.RowKit
set_option linter.unusedVariables false
set_option linter.unusedSimpArgs false

theorem rFst_is (T set : Nat) : ∀ k, k ≤ T → (rFst T set k).2 = (bitsK set k).length ∧ ∀ j : Nat, (rFst T set k).1.getD j 0 = if (bitsK set k).length ≠ 0 ∧ (j : Int) = (bitsK set k).getD 0 0 then 1 else 0
  | 0, _ => by
    refine ⟨rfl, fun j => ?_⟩
    show (List.replicate T (0 : Int)).getD j 0 = _
    rw [if_neg (fun h => h.1 rfl), List.getD_eq_getElem?_getD, List.getElem?_replicate]
    split <;> rfl
  | k + 1, hk => by
    obtain ⟨i1, i2⟩ := rFst_is T set k (by omega)
    have hlen := rFst_len T set k
    have e : rFst T set (k + 1) = if set.testBit k = true then (if (rFst T set k).2 = 0 then (rFst T set k).1.set k 1 else (rFst T set k).1, (rFst T set k).2 + 1) else rFst T set k := rfl
    rw [e]
    cases hb : set.testBit k with
    | false => rw [if_neg (by simp), bitsK_no hb]; exact ⟨i1, i2⟩
    | true =>
      rw [if_pos rfl, bitsK_yes hb]
      dsimp only
      refine ⟨by rw [i1, List.length_append]; rfl, fun j => ?_⟩
      by_cases h0 : (rFst T set k).2 = 0
      · rw [if_pos h0]
        have hn : bitsK set k = [] := List.eq_nil_of_length_eq_zero (by omega)
        rw [set_getDR _ _ _ _ _ (by rw [hlen]; omega), i2, hn]
        by_cases ej : j = k
        · subst ej; simp
        · rw [if_neg ej, if_neg (fun h => h.1 rfl), if_neg (fun h => ej (by have := h.2; simp at this; omega))]
      · rw [if_neg h0, i2]
        have hne : (bitsK set k).length ≠ 0 := by omega
        have eg : (bitsK set k ++ [(k : Int)]).getD 0 0 = (bitsK set k).getD 0 0 := by
          rw [List.getD_eq_getElem?_getD, List.getElem?_append_left (by omega), ← List.getD_eq_getElem?_getD]
        rw [eg]
        have : (bitsK set k ++ [(k : Int)]).length ≠ 0 := by simp
        simp only [hne, this, ne_eq, not_false_eq_true, true_and]
section
variable {ts : List Tri} {set N : Nat}
def nzc (l : List Int) (o : List Int) : Nat := (l.filter fun j => decide (o.getD j.toNat 0 ≠ 0)).length
theorem round_more {l : List Int} (hl : l = bitsK set ts.length) (hnd : l.Nodup) (hL : Linked ts l) (hin : ∀ t ∈ ts, ∀ o ∈ cor t, 0 ≤ o ∧ o < (N : Int)) {o : List Int} (ho : One3 o) (hlen : o.length = ts.length) (h1 : o.getD (l.getD 0 0).toNat 0 ≠ 0) :
    min l.length (nzc l o + 1) ≤ nzc l (rIs ts N ts.length set o ts.length) := by
  have hmono : ∀ j : Nat, o.getD j 0 ≠ 0 → (rIs ts N ts.length set o ts.length).getD j 0 ≠ 0 := fun j hj => rIs_keep (keep_nz j) hj _
  have hfl : ∀ o' : List Int, (l.filter fun j => decide (o'.getD j.toNat 0 ≠ 0)).Nodup := fun o' => hnd.filter _
  by_cases hall : ∀ k ∈ l, o.getD k.toNat 0 ≠ 0
  · have := nodup_len (a := l) (b := l.filter fun j => decide ((rIs ts N ts.length set o ts.length).getD j.toNat 0 ≠ 0)) hnd fun x hx => List.mem_filter.2 ⟨hx, by simpa using hmono _ (hall x hx)⟩
    unfold nzc
    omega
  · have hex : ∃ j ∈ l, o.getD j.toNat 0 ≠ 0 ∧ ∃ k ∈ l, ∃ q, q ∈ cor (tI ts j) ∧ q ∈ cor (tI ts k) ∧ ¬ (o.getD k.toNat 0 ≠ 0) := Classical.byContradiction fun hn => hall (hL (fun j => o.getD j.toNat 0 ≠ 0) h1 fun j hj sj k hk q hq hqk => Classical.byContradiction fun hx => hn ⟨j, hj, sj, k, hk, q, hq, hqk, hx⟩)
    obtain ⟨j, hj, hoj, k, hk, q, hq, hqk, hok⟩ := hex
    have hj' := hj
    have hk' := hk
    rw [hl] at hj' hk'
    obtain ⟨a, a1, a2, rfl⟩ := mem_bitsK.1 hj'
    obtain ⟨b, b1, b2, rfl⟩ := mem_bitsK.1 hk'
    unfold tI at hq hqk
    rw [Int.toNat_natCast] at hq hqk hoj hok
    have hqr := hin (tri ts a) (by rw [tri_eq a1]; exact List.getElem_mem _) q hq
    obtain ⟨p, rfl⟩ : ∃ p : Nat, q = (p : Int) := ⟨q.toNat, by omega⟩
    have hr := round_reach (ts := ts) (set := set) (N := N) ho hlen a1 b1 hoj b2 (q := p) (by omega) (coe_cor.2 hq) (coe_cor.2 hqk)
    have := nodup_len (a := (b : Int) :: l.filter fun j => decide (o.getD j.toNat 0 ≠ 0)) (b := l.filter fun j => decide ((rIs ts N ts.length set o ts.length).getD j.toNat 0 ≠ 0)) (by
      rw [List.nodup_cons]
      refine ⟨fun hx => ?_, hfl o⟩
      have := (List.mem_filter.1 hx).2
      rw [Int.toNat_natCast] at this
      exact hok (by simpa using this)) fun x hx => by
        rcases List.mem_cons.1 hx with rfl | hx
        · exact List.mem_filter.2 ⟨hk, by rw [Int.toNat_natCast]; simpa using hr⟩
        · obtain ⟨x1, x2⟩ := List.mem_filter.1 hx
          exact List.mem_filter.2 ⟨x1, by simpa using hmono _ (by simpa using x2)⟩
    rw [List.length_cons] at this
    unfold nzc
    omega
theorem rounds_all {l : List Int} (hl : l = bitsK set ts.length) (hnd : l.Nodup) (hL : Linked ts l) (hne : l.length ≠ 0) (hin : ∀ t ∈ ts, ∀ o ∈ cor t, 0 ≤ o ∧ o < (N : Int)) {o : List Int} (ho : One3 o) (hlen : o.length = ts.length) (h1 : o.getD (l.getD 0 0).toNat 0 ≠ 0) :
    ∀ r, min l.length (r + 1) ≤ nzc l (rRs ts N ts.length set o r)
  | 0 => by
    have h0 := first_in hne
    have : 0 < nzc l o := List.length_pos_of_mem (List.mem_filter.2 ⟨h0, by simpa using h1⟩)
    show min l.length (0 + 1) ≤ nzc l o
    omega
  | r + 1 => by
    have ih := rounds_all hl hnd hL hne hin ho hlen h1 r
    have hk := rRs_ok (ts := ts) (N := N) (T := ts.length) (set := set) ho r
    have h1' := rRs_keep (N := N) (T := ts.length) (keep_nz (ts := ts) (set := set) (l.getD 0 0).toNat) h1 r
    have := round_more (N := N) hl hnd hL hin hk.1 (hk.2.trans hlen) h1'
    show min l.length (r + 1 + 1) ≤ nzc l (rIs ts N ts.length set (rRs ts N ts.length set o r) ts.length)
    omega
/-- What the reference's signs come to. -/
theorem rSgn_is {l : List Int} (hl : l = bitsK set ts.length) (h : LOk ts l) (hne : l.length ≠ 0) (hbits : ∀ k, set.testBit k = true → k < ts.length) (hin : ∀ t ∈ ts, ∀ o ∈ cor t, 0 ≤ o ∧ o < (N : Int)) :
    (Two ts l ∧ Linked ts l → ∀ s, SignOk ts l s → (rSgn ts N set).2 = true ∧ ∀ j : Nat, (rSgn ts N set).1.getD j 0 = if (j : Int) ∈ l then s j else 0) ∧ (¬ (Two ts l ∧ Linked ts l) → (rSgn ts N set).2 = false) := by
  have h0 := first_in hne
  obtain ⟨f1, f2⟩ := rFst_is ts.length set ts.length (Nat.le_refl _)
  have htwo := two_cnt (N := N) (by rw [← hl]; exact h) hin
  rw [← hl] at f1 f2 htwo
  have hfo := rFst_one ts.length set ts.length
  have hfl := rFst_len ts.length set ts.length
  have hmem : ∀ k : Nat, (k : Int) ∈ l ↔ set.testBit k = true := fun k => by
    rw [hl, mem_bitsK]
    constructor
    · rintro ⟨m, _, m2, e⟩
      obtain rfl : k = m := by omega
      exact m2
    · exact fun hb => ⟨k, hbits k hb, hb, rfl⟩
  have hfirst : ∃ a : Nat, l.getD 0 0 = (a : Int) := ⟨(l.getD 0 0).toNat, by have := (h.rng _ h0).1; omega⟩
  obtain ⟨a, ha⟩ := hfirst
  have hstart : (rFst ts.length set ts.length).1.getD a 0 = 1 := by rw [f2, if_pos ⟨hne, ha.symm⟩]
  generalize hF : rFst ts.length set ts.length = F at *
  obtain ⟨o0, cnt⟩ := F
  dsimp only at f1 f2 hfo hfl hstart
  have hform : rSgn ts N set = if (List.range N).all (fun q => decide (rCnt ts set q ts.length ≤ 2)) = false then ([], false)
      else if (List.range ts.length).all (fun k => !(set.testBit k && (rRs ts N ts.length set o0 (cnt - 1)).getD k 0 == 0)) = false then ([], false)
      else (rRs ts N ts.length set o0 (cnt - 1), decide (0 < cnt)) := by unfold rSgn; rw [hF]
  have hz : (List.range ts.length).all (fun k => !(set.testBit k && (rRs ts N ts.length set o0 (cnt - 1)).getD k 0 == 0)) = true ↔ ∀ k ∈ l, (rRs ts N ts.length set o0 (cnt - 1)).getD k.toNat 0 ≠ 0 := by
    simp only [List.all_eq_true, List.mem_range]
    constructor
    · intro hx k hk
      have hkr := h.rng k hk
      have hb := (hmem k.toNat).1 (by rw [Int.toNat_of_nonneg hkr.1]; exact hk)
      have := hx k.toNat (by omega)
      rw [hb] at this
      simpa using this
    · intro hx k hk
      cases hb : set.testBit k with
      | false => rfl
      | true =>
        have := hx k ((hmem k).2 hb)
        rw [Int.toNat_natCast] at this
        simp only [Bool.true_and, Bool.not_eq_true']
        exact beq_eq_false_iff_ne.2 this
  constructor
  · rintro ⟨hT, hL⟩ s hs
    have hall : ∀ k ∈ l, (rRs ts N ts.length set o0 (cnt - 1)).getD k.toNat 0 ≠ 0 := by
      have := rounds_all (N := N) hl h.nd hL hne hin hfo hfl (by rw [ha, Int.toNat_natCast, hstart]; decide) (cnt - 1)
      have hful := nodup_full (a := l.filter fun j => decide ((rRs ts N ts.length set o0 (cnt - 1)).getD j.toNat 0 ≠ 0)) (b := l) (h.nd.filter _) (fun x hx => (List.mem_filter.1 hx).1) (by unfold nzc at this; omega)
      exact fun k hk => by simpa using (List.mem_filter.1 (hful k hk)).2
    have hkeep : Keeps (fun o => ∀ j : Nat, o.getD j 0 = 0 ∨ ((j : Int) ∈ l ∧ o.getD j 0 = s j)) ts set := fun o i k q hP hi hk hb h1 h2 j => by
      show (o.set k _).getD j 0 = 0 ∨ _
      rw [List.getD_eq_getElem?_getD, List.getElem?_set]
      by_cases e : k = j
      · subst e
        rw [if_pos rfl]
        split
        · right
          obtain ⟨il, iv⟩ := (hP i).resolve_left hi
          have hik : (i : Int) ≠ (k : Int) := fun e => by
            have : i = k := by omega
            subst this
            exact hi hk
          have hc := hs.can i il k ((hmem k).2 hb) hik (q : Int) (by unfold tI; rw [Int.toNat_natCast]; exact coe_cor.1 h1) (by unfold tI; rw [Int.toNat_natCast]; exact coe_cor.1 h2)
          unfold tI at hc
          rw [Int.toNat_natCast, Int.toNat_natCast] at hc
          refine ⟨(hmem k).2 hb, ?_⟩
          show -(o.getD i 0) * coe (tri ts i) (q : Int) * coe (tri ts k) (q : Int) = _
          rw [hc, iv, Int.neg_mul]
        · left; rfl
      · rw [if_neg e, ← List.getD_eq_getElem?_getD]
        exact hP j
    have hinv := rRs_keep (N := N) (T := ts.length) hkeep (o := o0) (fun j => by
      by_cases e : (j : Int) = l.getD 0 0
      · right
        refine ⟨by rw [e]; exact h0, ?_⟩
        rw [f2, if_pos ⟨hne, e⟩, e, hs.first]
      · left; rw [f2, if_neg (fun hx => e hx.2)]) (cnt - 1)
    rw [hform, if_neg (by rw [htwo.2 hT]; simp), if_neg (by rw [hz.2 hall]; simp)]
    refine ⟨decide_eq_true (by omega), fun j => ?_⟩
    dsimp only
    split
    · rename_i hj
      have := hall (j : Int) hj
      rw [Int.toNat_natCast] at this
      exact ((hinv j).resolve_left this).2
    · rename_i hj
      exact (hinv j).resolve_right (fun hx => hj hx.1)
  · intro hn
    rw [hform]
    by_cases hT : Two ts l
    · rw [if_neg (by rw [htwo.2 hT]; simp)]
      have hno : (List.range ts.length).all (fun k => !(set.testBit k && (rRs ts N ts.length set o0 (cnt - 1)).getD k 0 == 0)) = false := by
        rw [← Bool.not_eq_true]
        intro hx
        refine hn ⟨hT, fun S s0 hS k hk => ?_⟩
        have hkeep : Keeps (fun o => ∀ j : Nat, o.getD j 0 ≠ 0 → (j : Int) ∈ l ∧ S j) ts set := fun o i k q hP hi hk hb h1 h2 j hj => by
          have hj : (o.set k (-(o.getD i 0) * coe (tri ts i) (q : Int) * coe (tri ts k) (q : Int))).getD j 0 ≠ 0 := hj
          rw [List.getD_eq_getElem?_getD, List.getElem?_set] at hj
          by_cases e : k = j
          · subst e
            obtain ⟨il, iv⟩ := hP i hi
            exact ⟨(hmem k).2 hb, hS i il iv k ((hmem k).2 hb) (q : Int) (by unfold tI; rw [Int.toNat_natCast]; exact coe_cor.1 h1) (by unfold tI; rw [Int.toNat_natCast]; exact coe_cor.1 h2)⟩
          · rw [if_neg e, ← List.getD_eq_getElem?_getD] at hj
            exact hP j hj
        have hinv := rRs_keep (N := N) (T := ts.length) hkeep (o := o0) (fun j hj => by
          rw [f2] at hj
          split at hj
          · rename_i hx
            exact ⟨by rw [hx.2]; exact h0, by rw [hx.2]; exact s0⟩
          · exact absurd rfl hj) (cnt - 1)
        have hkr := h.rng k hk
        have := (hinv k.toNat (hz.1 hx k hk)).2
        rwa [Int.toNat_of_nonneg hkr.1] at this
      rw [if_pos hno]
    · rw [if_pos (by rw [← Bool.not_eq_true]; exact fun hx => hT (htwo.1 hx))]
end

end Go.Proofs.Ytlbhnicengolfaa

/-! ## RefX: The reference of total: equation is group. -/
namespace Go.Proofs.Ytlbhnicengolfaa
open Go.RowKit
set_option linter.unusedVariables false
set_option linter.unusedSimpArgs false

theorem sumS_append (ts : List Tri) (s : Int → Int) (q : Int) : ∀ a b, sumS ts s (a ++ b) q = sumS ts s a q + sumS ts s b q
  | [], b => by simp [sumS]
  | j :: a, b => by rw [List.cons_append, sumS_cons, sumS_cons, sumS_append ts s q a b]; omega
theorem eSum_bits {ts : List Tri} {S : List Int} {s : Int → Int} {set : Nat} (q : Nat) (hS : ∀ j : Nat, S.getD j 0 = if set.testBit j = true then s j else 0) : ∀ k, eSum ts S q k = sumS ts s (bitsK set k) (q : Int)
  | 0 => rfl
  | k + 1 => by
    have ih := eSum_bits (ts := ts) q hS k
    show eSum ts S q k + S.getD k 0 * coe (tri ts k) (q : Int) = _
    rw [ih, hS]
    cases hb : set.testBit k with
    | true =>
      rw [bitsK_yes hb, sumS_append, if_pos rfl, sumS_cons]
      unfold tI
      rw [Int.toNat_natCast]
      simp [sumS]
    | false =>
      rw [bitsK_no hb, if_neg (by simp)]
      simp
theorem eFst_at {ts : List Tri} {S : List Int} {T p : Nat} (h0 : ∀ j, j < p → eSum ts S j T = 0) (h1 : eSum ts S p T ≠ 0) : ∀ q, (q ≤ p → eFst ts S T q = 0) ∧ (p < q → eFst ts S T q = eSum ts S p T)
  | 0 => ⟨fun _ => rfl, fun h => by omega⟩
  | q + 1 => by
    obtain ⟨i1, i2⟩ := eFst_at h0 h1 q
    have e : eFst ts S T (q + 1) = if eFst ts S T q = 0 then eSum ts S q T else eFst ts S T q := rfl
    refine ⟨fun hq => ?_, fun hq => ?_⟩
    · rw [e, if_pos (i1 (by omega)), h0 q (by omega)]
    · rw [e]
      by_cases hqp : q ≤ p
      · obtain rfl : q = p := by omega
        rw [if_pos (i1 (Nat.le_refl _))]
      · rw [i2 (by omega), if_neg h1]
theorem nz_spec {xs : List Int} (h : nzIdx xs < xs.length) : xs.getD (nzIdx xs) 0 ≠ 0 ∧ ∀ j, j < nzIdx xs → xs.getD j 0 = 0 := by
  unfold nzIdx at *
  have h1 := List.findIdx_getElem (w := h)
  refine ⟨?_, fun j hj => ?_⟩
  · rw [List.getD_eq_getElem?_getD, List.getElem?_eq_getElem h, Option.getD_some]
    simpa using h1
  · have := List.not_of_lt_findIdx hj
    rw [List.getD_eq_getElem?_getD, List.getElem?_eq_getElem (by omega), Option.getD_some]
    simpa using this
theorem rEq_is {ts : List Tri} {set N : Nat} {l : List Int} (hl : l = bitsK set ts.length) (h : LOk ts l) (hne : l.length ≠ 0) (hbits : ∀ k, set.testBit k = true → k < ts.length) (hin : ∀ t ∈ ts, ∀ o ∈ cor t, 0 ≤ o ∧ o < (N : Int)) (hN : N ≤ 1000) (hl5 : l.length ≤ 1000) : rEq ts N set = grpR ts l N := by
  obtain ⟨hyes, hno⟩ := rSgn_is (N := N) hl h hne hbits hin
  have hgy := grp_yes h hne hin
  by_cases hTL : Two ts l ∧ Linked ts l
  · obtain ⟨s, hg⟩ := grp_is h hne hN hl5 hin hTL.1 hTL.2
    obtain ⟨r1, r2⟩ := hyes hTL s hg.sg
    have hmem : ∀ k : Nat, (k : Int) ∈ l ↔ set.testBit k = true := fun k => by
      rw [hl, mem_bitsK]
      constructor
      · rintro ⟨m, _, m2, e⟩
        obtain rfl : k = m := by omega
        exact m2
      · exact fun hb => ⟨k, hbits k hb, hb, rfl⟩
    have hS : ∀ j : Nat, (rSgn ts N set).1.getD j 0 = if set.testBit j = true then s j else 0 := fun j => by
      rw [r2]
      by_cases hj : set.testBit j = true
      · rw [if_pos ((hmem j).2 hj), if_pos hj]
      · rw [if_neg (fun hx => hj ((hmem j).1 hx)), if_neg hj]
    have hsum : ∀ q : Nat, eSum ts (rSgn ts N set).1 q ts.length = sumS ts s l q := fun q => by rw [eSum_bits q hS, ← hl]
    unfold rEq grpR
    rw [if_neg (by rw [r1]; simp), if_pos (hgy.2 hTL)]
    generalize rSgn ts N set = RS at *
    obtain ⟨S, b⟩ := RS
    dsimp only at hsum ⊢
    have hlen := hg.len
    have hout := hg.out
    have hone := hg.one
    have hnz := hg.nz
    generalize (grpS ts l N).out = xs at *
    obtain ⟨z1, z2⟩ := nz_spec (xs := xs) (by rw [hlen]; exact hnz)
    have hF : eFst ts S ts.length N = xs.getD (nzIdx xs) 0 := by
      rw [(eFst_at (ts := ts) (S := S) (T := ts.length) (p := nzIdx xs) (fun j hj => by rw [hsum, ← hout j (by omega)]; exact z2 j hj) (by rw [hsum, ← hout _ hnz]; exact z1) N).2 hnz, hsum, ← hout _ hnz]
    have hval : xs.getD (nzIdx xs) 0 = 1 ∨ xs.getD (nzIdx xs) 0 = -1 := by
      have := hone _ hnz
      rw [← hout _ hnz] at this
      rcases this with e | e | e
      · exact .inl e
      · exact .inr e
      · exact absurd e z1
    rw [hF]
    have hxs : ∀ q (hq : q < N), xs[q]'(by omega) = sumS ts s l q := fun q hq => by
      rw [← hout q hq, List.getD_eq_getElem?_getD, List.getElem?_eq_getElem (by omega)]; rfl
    rcases hval with e | e
    · rw [if_neg (by omega), e]
      refine Prod.ext (List.ext_getElem (by simp [hlen]) fun q q1 q2 => ?_) rfl
      have hq : q < N := by simpa using q1
      rw [List.getElem_map, List.getElem_range, hsum]
      dsimp only
      rw [hxs q hq]
      omega
    · rw [if_pos (by omega), e]
      refine Prod.ext (List.ext_getElem (by simp [hlen]) fun q q1 q2 => ?_) rfl
      have hq : q < N := by simpa using q1
      rw [List.getElem_map, List.getElem_range, hsum]
      dsimp only
      rw [List.getElem_map, hxs q hq]
      unfold negW
      have := hone q hq
      rw [IntWalk.wrap64_in _ (by omega)]
      omega
  · unfold rEq grpR
    rw [if_pos (hno hTL), if_neg (fun hx => hTL (hgy.1 hx))]

end Go.Proofs.Ytlbhnicengolfaa
