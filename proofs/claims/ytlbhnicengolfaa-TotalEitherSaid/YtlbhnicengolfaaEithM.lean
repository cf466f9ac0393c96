/-
  Nets: all truths with integer squares are tried: the plain model, and what it finds.
-/
import Derived.Test.YtlbhnicengolfaaEithG
namespace Go.Proofs.Ytlbhnicengolfaa
open Go.RowKit
set_option linter.unusedVariables false
set_option linter.unusedSimpArgs false

theorem xF_nat' (X : List Int) (q : Nat) : xF X (q : Int) = X.getD q 0 := by unfold xF; rw [Int.toNat_natCast]
def mx3 (t : Tri) : Int := max (max t.1 t.2.1) t.2.2
/-- Do the triangles that end at q hold, of the first k? -/
def fitK (ts : List Tri) (xs : List Int) (q : Nat) : Nat → Bool
  | 0 => true
  | k + 1 => if mx3 (tri ts k) = (q : Int) then fitK ts xs q k && decide (xF xs (tri ts k).1 + xF xs (tri ts k).2.1 = xF xs (tri ts k).2.2) else fitK ts xs q k
def useK (p : List Int) (L : List Sp) : Nat → List Sp
  | 0 => L
  | k + 1 => (useK p L k).set k (min ((useK p L k).getD k (0, 0)).1 (p.getD k 0), max ((useK p L k).getD k (0, 0)).2 (p.getD k 0))
def dupL (p : List Int) : List Sp := p.map fun y => (y, y)
def useM (p : List Int) (L : List Sp) : List Sp := useK p (if L = [] then dupL p else L) p.length
def lo2 (n : TNet) (q : Nat) : Int := los n.sp q * los n.sp q
def hi2 (n : TNet) (q : Nat) : Int := his n.sp q * his n.sp q
def cntV (n : TNet) (q : Nat) : Nat := (hi2 n q - lo2 n q + 1).toNat
/-- What is known behind all truths that begin so. -/
def chs (n : TNet) : Nat → List Int → List Sp → List Sp
  | 0, p, L => useM p L
  | f + 1, p, L => (List.range (cntV n p.length)).foldl (fun (M : List Sp) (i : Nat) => if fitK n.ts (p ++ [lo2 n p.length + (i : Int)]) p.length n.ts.length = true then chs n f (p ++ [lo2 n p.length + (i : Int)]) M else M) L
def chsK (n : TNet) (f : Nat) (p : List Int) (L : List Sp) (k : Nat) : List Sp := (List.range k).foldl (fun (M : List Sp) (i : Nat) => if fitK n.ts (p ++ [lo2 n p.length + (i : Int)]) p.length n.ts.length = true then chs n f (p ++ [lo2 n p.length + (i : Int)]) M else M) L
theorem chsK_snoc (n : TNet) (f : Nat) (p : List Int) (L : List Sp) (k : Nat) : chsK n f p L (k + 1) = if fitK n.ts (p ++ [lo2 n p.length + (k : Int)]) p.length n.ts.length = true then chs n f (p ++ [lo2 n p.length + (k : Int)]) (chsK n f p L k) else chsK n f p L k := by
  simp [chsK, List.range_succ]
theorem useK_len (p : List Int) (L : List Sp) : ∀ k, (useK p L k).length = L.length
  | 0 => rfl
  | k + 1 => by unfold useK; rw [List.length_set, useK_len p L k]
theorem useK_get (p : List Int) (L : List Sp) : ∀ k, k ≤ L.length → ∀ q, (useK p L k).getD q (0, 0) = if q < k then (min (L.getD q (0, 0)).1 (p.getD q 0), max (L.getD q (0, 0)).2 (p.getD q 0)) else L.getD q (0, 0)
  | 0, _, q => by simp [useK]
  | k + 1, hk, q => by
    unfold useK
    rw [set_getD (useK p L k) k q _ _ (by rw [useK_len]; omega), useK_get p L k (by omega) k, if_neg (Nat.lt_irrefl k)]
    by_cases e : q = k
    · rw [if_pos e, e, if_pos (Nat.lt_succ_self k)]
    · rw [if_neg e, useK_get p L k (by omega) q]
      by_cases h : q < k
      · rw [if_pos h, if_pos (by omega)]
      · rw [if_neg h, if_neg (by omega)]
theorem dupL_get (p : List Int) (q : Nat) (h : q < p.length) : (dupL p).getD q (0, 0) = (p.getD q 0, p.getD q 0) := by simp [dupL, List.getD, h]
theorem useM_len {p : List Int} {L : List Sp} {N : Nat} (hp : p.length = N) (hL : L = [] ∨ L.length = N) : (useM p L).length = N := by
  unfold useM
  rw [useK_len]
  split
  · simp [dupL, hp]
  · rename_i h
    rcases hL with h' | h'
    · exact absurd h' h
    · exact h'

/-- What is known of the truths that were visited. -/
def Bx (N : Nat) (V : List Int → Prop) (L : List Sp) : Prop :=
  (L = [] ∧ ∀ x, ¬ V x) ∨ (L.length = N ∧ (∃ x, V x) ∧ ∀ q, q < N → (∀ x, V x → InS (L.getD q (0, 0)) (x.getD q 0)) ∧ (∃ x, V x ∧ x.getD q 0 = (L.getD q (0, 0)).1) ∧ ∃ x, V x ∧ x.getD q 0 = (L.getD q (0, 0)).2)
theorem Bx.congr {N : Nat} {V V' : List Int → Prop} {L : List Sp} (h : Bx N V L) (e : ∀ x, V x ↔ V' x) : Bx N V' L := by
  have : V = V' := funext fun x => propext (e x)
  rwa [← this]
theorem Bx.len {N : Nat} {V : List Int → Prop} {L : List Sp} (h : Bx N V L) : L = [] ∨ L.length = N := by
  rcases h with h | h
  · exact .inl h.1
  · exact .inr h.1
theorem use_bx {N : Nat} {V : List Int → Prop} {L : List Sp} {p : List Int} (hN : 1 ≤ N) (h : Bx N V L) (hp : p.length = N) : Bx N (fun y => V y ∨ y = p) (useM p L) := by
  have hlen := useM_len hp h.len
  refine .inr ⟨hlen, ⟨p, .inr rfl⟩, fun q hq => ?_⟩
  have hq' : q < p.length := by omega
  unfold useM
  rcases h with ⟨h1, h2⟩ | ⟨h1, h2, h3⟩
  · rw [if_pos h1, useK_get _ _ _ (by simp [dupL]), if_pos hq', dupL_get p q hq']
    dsimp only
    refine ⟨fun x hx => ?_, ⟨p, .inr rfl, by omega⟩, ⟨p, .inr rfl, by omega⟩⟩
    rcases hx with hx | rfl
    · exact absurd hx (h2 x)
    · unfold InS; dsimp only; omega
  · have hne : L ≠ [] := fun e => by rw [e] at h1; simp at h1; omega
    rw [if_neg hne, useK_get _ _ _ (by omega), if_pos hq']
    obtain ⟨a1, ⟨x1, b1, b2⟩, ⟨x2, c1, c2⟩⟩ := h3 q hq
    dsimp only
    refine ⟨fun x hx => ?_, ?_, ?_⟩
    · rcases hx with hx | rfl
      · have := a1 x hx
        unfold InS at *
        dsimp only
        omega
      · unfold InS; dsimp only; omega
    · rcases Int.le_total (L.getD q (0, 0)).1 (p.getD q 0) with h | h
      · exact ⟨x1, .inl b1, by omega⟩
      · exact ⟨p, .inr rfl, by omega⟩
    · rcases Int.le_total (L.getD q (0, 0)).2 (p.getD q 0) with h | h
      · exact ⟨p, .inr rfl, by omega⟩
      · exact ⟨x2, .inl c1, by omega⟩
/-- y is a truth that begins with p, as far as it is looked at. -/
def ExtP (n : TNet) (N : Nat) (p y : List Int) : Prop := y.length = N ∧ y.take p.length = p ∧ ∀ q, p.length ≤ q → q < N → lo2 n q ≤ y.getD q 0 ∧ y.getD q 0 ≤ hi2 n q ∧ fitK n.ts (y.take (q + 1)) q n.ts.length = true
theorem ext_step {n : TNet} {N : Nat} {p y : List Int} (hp : p.length < N) : ExtP n N p y ↔ ∃ i, i < cntV n p.length ∧ fitK n.ts (p ++ [lo2 n p.length + (i : Int)]) p.length n.ts.length = true ∧ ExtP n N (p ++ [lo2 n p.length + (i : Int)]) y := by
  constructor
  · rintro ⟨h1, h2, h3⟩
    obtain ⟨a, b, c⟩ := h3 p.length (Nat.le_refl _) hp
    have e : lo2 n p.length + (((y.getD p.length 0 - lo2 n p.length).toNat : Nat) : Int) = y.getD p.length 0 := by omega
    have et : y.take (p.length + 1) = p ++ [y.getD p.length 0] := by
      rw [List.take_succ_eq_append_getElem (by omega), h2]
      simp [List.getD, show p.length < y.length by omega]
    refine ⟨(y.getD p.length 0 - lo2 n p.length).toNat, by unfold cntV; omega, by rw [e, ← et]; exact c, h1, ?_, fun q hq1 hq2 => h3 q (by simp at hq1; omega) hq2⟩
    rw [e, List.length_append]
    exact et
  · rintro ⟨i, hi, hf, h1, h2, h3⟩
    rw [List.length_append] at h2 h3
    simp only [List.length_cons, List.length_nil] at h2 h3
    have hpre : y.take p.length = p := by
      have := congrArg (List.take p.length) h2
      rw [List.take_take, Nat.min_eq_left (by omega), List.take_left] at this
      exact this
    have hat : y.getD p.length 0 = lo2 n p.length + (i : Int) := by
      have := congrArg (fun l => l.getD p.length 0) h2
      rw [List.getD_eq_getElem?_getD, List.getElem?_take_of_lt (by omega), ← List.getD_eq_getElem?_getD] at this
      rw [this]
      simp [List.getD]
    refine ⟨h1, hpre, fun q hq1 hq2 => ?_⟩
    rcases Nat.lt_or_ge p.length q with h | h
    · exact h3 q (by omega) hq2
    · obtain rfl : q = p.length := by omega
      rw [hat]
      unfold cntV at hi
      refine ⟨by omega, by omega, ?_⟩
      rw [h2]
      exact hf
theorem chs_bx {n : TNet} {N : Nat} (hN : 1 ≤ N) : ∀ (f : Nat) (p : List Int) (L : List Sp) (V : List Int → Prop), p.length + f = N → Bx N V L → Bx N (fun y => V y ∨ ExtP n N p y) (chs n f p L)
  | 0, p, L, V, hp, h => by
    refine (use_bx hN h (by omega)).congr fun y => ⟨fun hy => hy.imp id ?_, fun hy => hy.imp id ?_⟩
    · rintro rfl
      exact ⟨by omega, by rw [List.take_length], fun q h1 h2 => by omega⟩
    · rintro ⟨h1, h2, _⟩
      rw [List.take_of_length_le (by omega)] at h2
      exact h2
  | f + 1, p, L, V, hp, h => by
    have key : ∀ k : Nat, Bx N (fun y => V y ∨ ∃ i, i < k ∧ fitK n.ts (p ++ [lo2 n p.length + (i : Int)]) p.length n.ts.length = true ∧ ExtP n N (p ++ [lo2 n p.length + (i : Int)]) y) (chsK n f p L k) := by
      intro k
      induction k with
      | zero => exact h.congr fun y => ⟨.inl, fun hy => hy.elim id (fun ⟨i, hi, _⟩ => by omega)⟩
      | succ k ih =>
        rw [chsK_snoc]
        split
        · rename_i hf
          refine (chs_bx hN f (p ++ [lo2 n p.length + (k : Int)]) _ _ (by simp; omega) ih).congr fun y => ?_
          constructor
          · rintro ((hy | ⟨i, hi, hy⟩) | hy)
            · exact .inl hy
            · exact .inr ⟨i, by omega, hy⟩
            · exact .inr ⟨k, by omega, hf, hy⟩
          · rintro (hy | ⟨i, hi, hy⟩)
            · exact .inl (.inl hy)
            · by_cases e : i = k
              · subst e; exact .inr hy.2
              · exact .inl (.inr ⟨i, by omega, hy⟩)
        · rename_i hf
          refine ih.congr fun y => ?_
          constructor
          · rintro (hy | ⟨i, hi, hy⟩)
            · exact .inl hy
            · exact .inr ⟨i, by omega, hy⟩
          · rintro (hy | ⟨i, hi, hy⟩)
            · exact .inl hy
            · by_cases e : i = k
              · subst e; exact absurd hy.1 hf
              · exact .inr ⟨i, by omega, hy⟩
    refine (key (cntV n p.length)).congr fun y => ?_
    rw [ext_step (by omega)]
theorem fitK_iff (ts : List Tri) (xs : List Int) (q : Nat) : ∀ k, fitK ts xs q k = true ↔ ∀ i, i < k → mx3 (tri ts i) = (q : Int) → Hl (xF xs) (tri ts i)
  | 0 => by simp [fitK]
  | k + 1 => by
    have ih := fitK_iff ts xs q k
    unfold fitK
    split
    · rename_i e
      rw [Bool.and_eq_true, ih, decide_eq_true_iff]
      constructor
      · rintro ⟨h1, h2⟩ i hi he
        by_cases e2 : i = k
        · subst e2; exact h2
        · exact h1 i (by omega) he
      · exact fun h => ⟨fun i hi he => h i (by omega) he, h k (by omega) e⟩
    · rename_i e
      rw [ih]
      constructor
      · intro h i hi he
        by_cases e2 : i = k
        · subst e2; exact absurd he e
        · exact h i (by omega) he
      · exact fun h i hi he => h i (by omega) he
theorem xF_take (y : List Int) {q : Nat} {c : Int} (h0 : 0 ≤ c) (h1 : c ≤ (q : Int)) : xF (y.take (q + 1)) c = xF y c := by
  unfold xF
  rw [List.getD_eq_getElem?_getD, List.getElem?_take_of_lt (by omega), ← List.getD_eq_getElem?_getD]
theorem ext_tru {n : TNet} (hok : NOk n) {y : List Int} (hy : y.length = n.sp.length) : ExtP n n.sp.length [] y ↔ Tru n.ts (sqs n.sp) (xF y) := by
  have hin := nok_in hok
  have hcor : ∀ i, i < n.ts.length → ∃ q : Nat, mx3 (tri n.ts i) = (q : Int) ∧ q < n.sp.length ∧ ∀ o ∈ cor (tri n.ts i), 0 ≤ o ∧ o ≤ (q : Int) := fun i hi => by
    have hm := hin (tri n.ts i) (by rw [tri_eq hi]; exact List.getElem_mem hi)
    generalize tri n.ts i = t at *
    have ha := hm t.1 (by simp [cor])
    have hb := hm t.2.1 (by simp [cor])
    have hc := hm t.2.2 (by simp [cor])
    refine ⟨(mx3 t).toNat, by unfold mx3; omega, by unfold mx3; omega, fun o ho => ?_⟩
    simp only [cor, List.mem_cons, List.not_mem_nil, or_false] at ho
    unfold mx3
    rcases ho with rfl | rfl | rfl <;> omega
  constructor
  · rintro ⟨h1, _, h3⟩
    refine ⟨fun q h0 hq => ?_, fun t ht => ?_⟩
    · rw [sqs_len] at hq
      rw [spA_sqs h0 hq]
      obtain ⟨a, b, _⟩ := h3 q.toNat (by simp) (by omega)
      exact ⟨a, b⟩
    · obtain ⟨i, hi, e⟩ := List.mem_iff_getElem.1 ht
      rw [← tri_eq hi] at e
      subst e
      obtain ⟨q, hq, hqN, hc⟩ := hcor i hi
      have := (fitK_iff n.ts (y.take (q + 1)) q n.ts.length).1 (h3 q (by simp) hqN).2.2 i hi hq
      exact hl_congr (fun o ho => xF_take y (hc o ho).1 (hc o ho).2) this
  · intro h
    refine ⟨hy, by simp, fun q _ hq => ?_⟩
    have := h.sp (q : Int) (by omega) (by rw [sqs_len]; omega)
    rw [spA_sqs (by omega) (by omega), Int.toNat_natCast, xF_nat'] at this
    refine ⟨this.1, this.2, (fitK_iff n.ts (y.take (q + 1)) q n.ts.length).2 fun i hi he => ?_⟩
    obtain ⟨q', hq', _, hc⟩ := hcor i hi
    have eq : q' = q := by omega
    subst eq
    exact hl_congr (fun o ho => (xF_take y (hc o ho).1 (hc o ho).2).symm) (h.tr _ (by rw [tri_eq hi]; exact List.getElem_mem hi))
theorem tru_list {n : TNet} (hok : NOk n) {x : Int → Int} (h : Tru n.ts (sqs n.sp) x) : Tru n.ts (sqs n.sp) (xF ((List.range n.sp.length).map fun i : Nat => x i)) := by
  have e : ∀ o : Int, 0 ≤ o → o < (n.sp.length : Int) → x o = xF ((List.range n.sp.length).map fun i : Nat => x i) o := fun o h0 h1 => by
    unfold xF
    rw [List.getD_eq_getElem?_getD, List.getElem?_map, List.getElem?_range (by omega)]
    show x o = x ((o.toNat : Nat) : Int)
    rw [Int.toNat_of_nonneg h0]
  refine ⟨fun q h0 h1 => ?_, fun t ht => hl_congr (fun o ho => ?_) (h.tr t ht)⟩
  · rw [← e q h0 (by rw [sqs_len] at h1; exact h1)]; exact h.sp q h0 h1
  · have := nok_in hok t ht o ho
    exact e o this.1 this.2
/-- What is found: nothing, or the spans of squares. -/
theorem want_ok {n : TNet} (hok : NOk n) : (chs n n.sp.length [] [] = [] ∧ ¬ ∃ x, Tru n.ts (sqs n.sp) x) ∨ ((∃ x, Tru n.ts (sqs n.sp) x) ∧ chs n n.sp.length [] [] = narT n.ts (sqs n.sp)) := by
  have hb := chs_bx (n := n) hok.l1 n.sp.length [] [] (fun _ => False) (by simp) (.inl ⟨rfl, fun x h => h⟩)
  generalize chs n n.sp.length [] [] = L at *
  rcases hb with ⟨h1, h2⟩ | ⟨h1, ⟨x, hx⟩, h3⟩
  · refine .inl ⟨h1, fun ⟨x, hx⟩ => h2 ((List.range n.sp.length).map fun i : Nat => x i) (.inr ((ext_tru hok (by simp)).2 (tru_list hok hx)))⟩
  · have hx' : ∀ y, (False ∨ ExtP n n.sp.length [] y) → Tru n.ts (sqs n.sp) (xF y) := fun y hy => by
      rcases hy with hy | hy
      · cases hy
      · exact (ext_tru hok hy.1).1 hy
    have hex : ∃ x, Tru n.ts (sqs n.sp) x := ⟨_, hx' x hx⟩
    refine .inr ⟨hex, ?_⟩
    have hnok := (ok_iff hok (sqs_len _)).2 hex
    have hl : (narT n.ts (sqs n.sp)).length = n.sp.length := by rw [narT_len, sqs_len]
    refine List.ext_getElem (by rw [h1, hl]) fun q q1 q2 => ?_
    have hq : q < n.sp.length := by omega
    obtain ⟨a, ⟨y1, b1, b2⟩, ⟨y2, c1, c2⟩⟩ := h3 q hq
    have i1 := fun y => in_iff hok (sqs_len _) hnok hq y
    have hle := nar_le (sqs_len _) hnok hq
    have k1 := (i1 _).2 ⟨_, rfl, hx' y1 b1⟩
    have k2 := (i1 _).2 ⟨_, rfl, hx' y2 c1⟩
    obtain ⟨z1, e1, t1⟩ := (i1 _).1 ⟨Int.le_refl _, hle⟩
    obtain ⟨z2, e2, t2⟩ := (i1 _).1 ⟨hle, Int.le_refl _⟩
    have m1 := a _ (.inr ((ext_tru hok (by simp)).2 (tru_list hok t1)))
    have m2 := a _ (.inr ((ext_tru hok (by simp)).2 (tru_list hok t2)))
    have ez : ∀ z : Int → Int, ((List.range n.sp.length).map fun i : Nat => z i).getD q 0 = z q := fun z => by
      rw [List.getD_eq_getElem?_getD, List.getElem?_map, List.getElem?_range hq]; rfl
    rw [ez, e1] at m1
    rw [ez, e2] at m2
    rw [xF_nat', b2] at k1
    rw [xF_nat', c2] at k2
    have g1 : L.getD q (0, 0) = L[q] := by simp [List.getD, q1]
    have g2 : (narT n.ts (sqs n.sp)).getD q (0, 0) = (narT n.ts (sqs n.sp))[q] := by simp [List.getD, q2]
    rw [← g1, ← g2]
    generalize L.getD q (0, 0) = u at *
    generalize (narT n.ts (sqs n.sp)).getD q (0, 0) = v at *
    unfold InS at *
    exact Prod.ext (by omega) (by omega)

end Go.Proofs.Ytlbhnicengolfaa
