/-
  Groups and truths: where there is no truth, some group is broken (for any valid net). Groups and truths: a valid net has a truth, or some group of it is broken. A valid net has a truth just if no group is broken; ends of truths are bounds by groups (as the reference says).
-/
import Derived.Test.YtlbhnicengolfaaDfsL
import Derived.Test.YtlbhnicengolfaaEqQ
/-! ## FarL: Groups and truths: where there is no truth, some group is broken (for any valid net). -/
namespace Go.Proofs.Ytlbhnicengolfaa
open Go.RowKit
set_option linter.unusedVariables false
set_option linter.unusedSimpArgs false

/-! ### the low end of a sum -/
def lo1 (c : Int) (s : Sp) : Int := if c = 1 then s.1 else if c = -1 then -s.2 else 0
theorem lo1_zero (s : Sp) : lo1 0 s = 0 := by unfold lo1; rw [if_neg (by decide), if_neg (by decide)]
def loX (E : Int → Int) (S : Int → Sp) (x : Int) : Nat → Int
  | 0 => 0
  | k + 1 => loX E S x k + if (k : Int) = x then 0 else lo1 (E k) (S k)
theorem loX_congr {E E' : Int → Int} {S S' : Int → Sp} {x : Int} : ∀ k, (∀ q : Nat, q < k → (q : Int) ≠ x → lo1 (E q) (S q) = lo1 (E' q) (S' q)) → loX E S x k = loX E' S' x k
  | 0, _ => rfl
  | k + 1, h => by
    unfold loX
    rw [loX_congr k fun q hq => h q (by omega)]
    by_cases e : (k : Int) = x
    · rw [if_pos e, if_pos e]
    · rw [if_neg e, if_neg e, h k (by omega) e]
theorem loX_split {E : Int → Int} {S : Int → Sp} {x : Int} (hx : 0 ≤ x) : ∀ k : Nat, loX E S (-1) k = loX E S x k + if x < (k : Int) then lo1 (E x) (S x) else 0
  | 0 => by rw [if_neg (show ¬ x < ((0 : Nat) : Int) by omega)]; rfl
  | k + 1 => by
    unfold loX
    rw [loX_split hx k, if_neg (show ¬ (k : Int) = -1 by omega)]
    by_cases e : (k : Int) = x
    · rw [if_neg (show ¬ x < (k : Int) by omega), if_pos e, if_pos (show x < ((k + 1 : Nat) : Int) by omega), e, Int.add_zero]
    · rw [if_neg e]
      by_cases h : x < (k : Int)
      · rw [if_pos h, if_pos (show x < ((k + 1 : Nat) : Int) by omega)]; omega
      · rw [if_neg h, if_neg (show ¬ x < ((k + 1 : Nat) : Int) by omega)]; omega
theorem loX_add {E E1 E2 : Int → Int} {S : Int → Sp} {x : Int} : ∀ k, (∀ q : Nat, q < k → (q : Int) ≠ x → lo1 (E q) (S q) = lo1 (E1 q) (S q) + lo1 (E2 q) (S q)) → loX E S x k = loX E1 S x k + loX E2 S x k
  | 0, _ => rfl
  | k + 1, h => by
    unfold loX
    rw [loX_add k fun q hq => h q (by omega)]
    by_cases e : (k : Int) = x
    · rw [if_pos e, if_pos e, if_pos e]; omega
    · rw [if_neg e, if_neg e, if_neg e, h k (by omega) e]; omega
def dotF (E X : Int → Int) : Nat → Int
  | 0 => 0
  | k + 1 => dotF E X k + E k * X k
theorem lo_le {E X : Int → Int} {S : Int → Sp} : ∀ k, (∀ q : Nat, q < k → E q = 1 ∨ E q = -1 ∨ E q = 0) → (∀ q : Nat, q < k → InS (S q) (X q)) → loX E S (-1) k ≤ dotF E X k
  | 0, _, _ => Int.le_refl _
  | k + 1, h, hX => by
    have ih := lo_le k (fun q hq => h q (by omega)) (fun q hq => hX q (by omega))
    have h1 := h k (by omega)
    have h2 := hX k (by omega)
    unfold loX dotF lo1
    unfold InS at h2
    rw [if_neg (by omega)]
    rcases h1 with e | e | e
    · rw [e, if_pos rfl]; omega
    · rw [e, if_neg (by decide), if_pos rfl]; omega
    · rw [e, if_neg (by decide), if_neg (by decide)]; omega
theorem dotF_lin (c : Int) (A B X : Int → Int) : ∀ k, dotF (fun q => c * A q + B q) X k = c * dotF A X k + dotF B X k
  | 0 => by simp [dotF]
  | k + 1 => by
    unfold dotF
    rw [dotF_lin c A B X k]
    grind
theorem dotF_coe {t : Tri} (h0 : ∀ o ∈ cor t, 0 ≤ o) (hd : t.1 ≠ t.2.1 ∧ t.1 ≠ t.2.2 ∧ t.2.1 ≠ t.2.2) (X : Int → Int) : ∀ k : Nat, dotF (coe t) X k = (if t.1 < (k : Int) then X t.1 else 0) + (if t.2.1 < (k : Int) then X t.2.1 else 0) - (if t.2.2 < (k : Int) then X t.2.2 else 0)
  | 0 => by
    have a := h0 t.1 (by simp [cor])
    have b := h0 t.2.1 (by simp [cor])
    have c := h0 t.2.2 (by simp [cor])
    rw [if_neg (by omega), if_neg (by omega), if_neg (by omega)]; rfl
  | k + 1 => by
    unfold dotF
    rw [dotF_coe h0 hd X k]
    have s : ∀ c : Int, (if c < ((k + 1 : Nat) : Int) then X c else 0) = (if c < (k : Int) then X c else 0) + (if c = (k : Int) then X c else 0) := fun c => by
      by_cases h1 : c < (k : Int)
      · rw [if_pos h1, if_pos (show c < ((k + 1 : Nat) : Int) by omega), if_neg (show ¬ c = (k : Int) by omega)]; omega
      · by_cases h2 : c = (k : Int)
        · rw [if_neg h1, if_pos (show c < ((k + 1 : Nat) : Int) by omega), if_pos h2]; omega
        · rw [if_neg h1, if_neg (show ¬ c < ((k + 1 : Nat) : Int) by omega), if_neg h2]; omega
    have m : coe t (k : Int) * X (k : Int) = (if t.1 = (k : Int) then X t.1 else 0) + (if t.2.1 = (k : Int) then X t.2.1 else 0) - (if t.2.2 = (k : Int) then X t.2.2 else 0) := by
      obtain ⟨d1, d2, d3⟩ := hd
      unfold coe
      by_cases e1 : t.1 = (k : Int)
      · rw [if_pos (show (k : Int) = t.1 ∨ (k : Int) = t.2.1 from Or.inl e1.symm), if_pos e1, if_neg (show ¬ t.2.1 = (k : Int) by omega), if_neg (show ¬ t.2.2 = (k : Int) by omega), e1]; omega
      · by_cases e2 : t.2.1 = (k : Int)
        · rw [if_pos (show (k : Int) = t.1 ∨ (k : Int) = t.2.1 from Or.inr e2.symm), if_neg e1, if_pos e2, if_neg (show ¬ t.2.2 = (k : Int) by omega), e2]; omega
        · rw [if_neg (show ¬ ((k : Int) = t.1 ∨ (k : Int) = t.2.1) by omega), if_neg e1, if_neg e2]
          by_cases e3 : t.2.2 = (k : Int)
          · rw [if_pos e3.symm, if_pos e3, e3]; omega
          · rw [if_neg (fun h => e3 h.symm), if_neg e3]; omega
    rw [s, s, s, m]
    omega

theorem sumS_app (ts : List Tri) (s : Int → Int) (q : Int) : ∀ a b, sumS ts s (a ++ b) q = sumS ts s a q + sumS ts s b q
  | [], b => by show sumS ts s b q = 0 + sumS ts s b q; omega
  | j :: a, b => by rw [List.cons_append, sumS_cons, sumS_cons, sumS_app ts s q a b]; omega

/-! ### groups -/
structure Gl (ts : List Tri) (k : Nat) (l : List Int) (s : Int → Int) : Prop where
  rng : ∀ j ∈ l, 0 ≤ j ∧ j < (k : Int)
  nd : l.Nodup
  ne : l ≠ []
  one : ∀ j ∈ l, s j = 1 ∨ s j = -1
  two : Two ts l
  can : ∀ j ∈ l, ∀ m ∈ l, j ≠ m → ∀ q, q ∈ cor (tI ts j) → q ∈ cor (tI ts m) → s m = -(s j * coe (tI ts j) q) * coe (tI ts m) q
  link : ∀ (P : Int → Prop), ∀ i ∈ l, P i → (∀ j ∈ l, P j → ∀ m ∈ l, ∀ q, q ∈ cor (tI ts j) → q ∈ cor (tI ts m) → P m) → ∀ m ∈ l, P m
section
variable {ts : List Tri} {k : Nat} {l : List Int} {s : Int → Int}
theorem Gl.mono (h : Gl ts k l s) {k' : Nat} (hk : k ≤ k') : Gl ts k' l s := ⟨fun j hj => by have := h.rng j hj; omega, h.nd, h.ne, h.one, h.two, h.can, h.link⟩
theorem Gl.ent (h : Gl ts k l s) (q : Int) : sumS ts s l q = 1 ∨ sumS ts s l q = -1 ∨ sumS ts s l q = 0 :=
  (sumS_one h.nd h.one (fun j hj m hm e hq hqm => h.can j hj m hm e q hq hqm) (fun a ha b hb c hc => h.two q a ha b hb c hc)).1
theorem sumS_era {j : Int} (hj : j ∈ l) (q : Int) : sumS ts s l q = s j * coe (tI ts j) q + sumS ts s (l.erase j) q := by
  rw [sumS_perm (List.perm_cons_erase hj), sumS_cons]
theorem Gl.at (h : Gl ts k l s) {q : Int} (hq : sumS ts s l q ≠ 0) : ∃ j ∈ l, q ∈ cor (tI ts j) ∧ (∀ m ∈ l, q ∈ cor (tI ts m) → m = j) ∧ sumS ts s l q = s j * coe (tI ts j) q := by
  obtain ⟨j, hj, hqj⟩ : ∃ j ∈ l, q ∈ cor (tI ts j) := Classical.byContradiction fun hn => hq (sumS_none fun j hj hqj => hn ⟨j, hj, hqj⟩)
  have hu : ∀ m ∈ l, q ∈ cor (tI ts m) → m = j := fun m hm hqm => Classical.byContradiction fun hmj => by
    apply hq
    have hme : m ∈ l.erase j := h.nd.mem_erase_iff.2 ⟨hmj, hm⟩
    rw [sumS_era hj, sumS_era hme, sumS_none fun i hi hqi => ?_]
    · have hc := h.can j hj m hm (fun e => hmj e.symm) q hqj hqm
      have hs := coe_sq hqm
      rw [hc]
      generalize s j * coe (tI ts j) q = u at *
      generalize coe (tI ts m) q = v at *
      have : -u * v * v = -u * (v * v) := by grind
      rw [this, hs]
      omega
    · obtain ⟨i1, i2⟩ := (h.nd.erase j).mem_erase_iff.1 hi
      obtain ⟨i3, i4⟩ := h.nd.mem_erase_iff.1 i2
      rcases h.two q i i4 j hj m hm hqi hqj hqm with e | e | e
      · exact i3 e
      · exact i1 e
      · exact hmj e.symm
  refine ⟨j, hj, hqj, hu, ?_⟩
  rw [sumS_era hj, sumS_none fun i hi hqi => ?_]
  · omega
  · obtain ⟨i3, i4⟩ := h.nd.mem_erase_iff.1 hi
    exact i3 (hu i i4 hqi)
theorem Gl.join (hd : ∀ j : Int, 0 ≤ j → j < (k : Int) → (tI ts j).1 ≠ (tI ts j).2.1) {l2 : List Int} {s2 : Int → Int} (h : Gl ts k l s) (h2 : Gl ts k l2 s2) {x : Int} (hx : sumS ts s l x + sumS ts s2 l2 x = 0) (hx0 : sumS ts s l x ≠ 0)
    (hc : ∀ i ∈ l, ∀ j ∈ l2, ∀ q, q ∈ cor (tI ts i) → q ∈ cor (tI ts j) → q = x) :
    ∃ s', Gl ts k (l ++ l2) s' ∧ ∀ q, sumS ts s' (l ++ l2) q = sumS ts s l q + sumS ts s2 l2 q := by
  have hdis : ∀ i ∈ l, i ∉ l2 := fun i hi hi2 => by
    have hr := h.rng i hi
    have a := hc i hi i hi2 (tI ts i).1 (by simp [cor]) (by simp [cor])
    have b := hc i hi i hi2 (tI ts i).2.1 (by simp [cor]) (by simp [cor])
    exact hd i hr.1 hr.2 (a.trans b.symm)
  obtain ⟨j1, hj1, hq1, hu1, he1⟩ := h.at hx0
  obtain ⟨j2, hj2, hq2, hu2, he2⟩ := h2.at (q := x) (by omega)
  have e1 : ∀ j ∈ l, (if j ∈ l then s j else s2 j) = s j := fun j hj => if_pos hj
  have e2 : ∀ j ∈ l2, (if j ∈ l then s j else s2 j) = s2 j := fun j hj => if_neg fun hjl => hdis j hjl hj
  have hcross : s2 j2 = -(s j1 * coe (tI ts j1) x) * coe (tI ts j2) x ∧ s j1 = -(s2 j2 * coe (tI ts j2) x) * coe (tI ts j1) x := by
    have c1 := coe_sq hq1
    have c2 := coe_sq hq2
    rw [he1, he2] at hx
    generalize coe (tI ts j1) x = u at *
    generalize coe (tI ts j2) x = v at *
    generalize s j1 = a at *
    generalize s2 j2 = b at *
    have z1 : a * u = -(b * v) := by omega
    have z2 : b * v = -(a * u) := by omega
    refine ⟨?_, ?_⟩
    · have : -(a * u) * v = b * (v * v) := by rw [← z2]; grind
      rw [this, c2]; omega
    · have : -(b * v) * u = a * (u * u) := by rw [← z1]; grind
      rw [this, c1]; omega
  refine ⟨fun j => if j ∈ l then s j else s2 j, ⟨fun j hj => ?_, List.nodup_append.2 ⟨h.nd, h2.nd, fun a ha b hb e => hdis a ha (by rw [e]; exact hb)⟩, by simp [h.ne], fun j hj => ?_, ?_, ?_, ?_⟩, fun q => ?_⟩
  · rcases List.mem_append.1 hj with hj | hj
    · exact h.rng j hj
    · exact h2.rng j hj
  · rcases List.mem_append.1 hj with hj | hj
    · rw [e1 j hj]; exact h.one j hj
    · rw [e2 j hj]; exact h2.one j hj
  · intro q a ha b hb c hc' hqa hqb hqc
    have key : ∀ i ∈ l, ∀ j ∈ l2, q ∈ cor (tI ts i) → q ∈ cor (tI ts j) → q = x := fun i hi j hj => hc i hi j hj q
    rcases List.mem_append.1 ha with ha | ha <;> rcases List.mem_append.1 hb with hb | hb <;> rcases List.mem_append.1 hc' with hc' | hc'
    · exact h.two q a ha b hb c hc' hqa hqb hqc
    · have := key a ha c hc' hqa hqc
      subst this
      exact .inl ((hu1 a ha hqa).trans (hu1 b hb hqb).symm)
    · have := key a ha b hb hqa hqb
      subst this
      exact .inr (.inl ((hu1 a ha hqa).trans (hu1 c hc' hqc).symm))
    · have := key a ha b hb hqa hqb
      subst this
      exact .inr (.inr ((hu2 b hb hqb).trans (hu2 c hc' hqc).symm))
    · have := key b hb a ha hqb hqa
      subst this
      exact .inr (.inr ((hu1 b hb hqb).trans (hu1 c hc' hqc).symm))
    · have := key b hb a ha hqb hqa
      subst this
      exact .inr (.inl ((hu2 a ha hqa).trans (hu2 c hc' hqc).symm))
    · have := key c hc' a ha hqc hqa
      subst this
      exact .inl ((hu2 a ha hqa).trans (hu2 b hb hqb).symm)
    · exact h2.two q a ha b hb c hc' hqa hqb hqc
  · intro j hj m hm hjm q hqj hqm
    rcases List.mem_append.1 hj with hj | hj <;> rcases List.mem_append.1 hm with hm | hm
    · rw [e1 j hj, e1 m hm]; exact h.can j hj m hm hjm q hqj hqm
    · have := hc j hj m hm q hqj hqm
      subst this
      obtain rfl := hu1 j hj hqj
      obtain rfl := hu2 m hm hqm
      rw [e1 j hj, e2 m hm]; exact hcross.1
    · have := hc m hm j hj q hqm hqj
      subst this
      obtain rfl := hu1 m hm hqm
      obtain rfl := hu2 j hj hqj
      rw [e2 j hj, e1 m hm]; exact hcross.2
    · rw [e2 j hj, e2 m hm]; exact h2.can j hj m hm hjm q hqj hqm
  · intro P i hi hP hcl
    have c1 : ∀ j ∈ l, P j → ∀ m ∈ l, ∀ q, q ∈ cor (tI ts j) → q ∈ cor (tI ts m) → P m := fun j hj hp m hm => hcl j (List.mem_append_left _ hj) hp m (List.mem_append_left _ hm)
    have c2 : ∀ j ∈ l2, P j → ∀ m ∈ l2, ∀ q, q ∈ cor (tI ts j) → q ∈ cor (tI ts m) → P m := fun j hj hp m hm => hcl j (List.mem_append_right _ hj) hp m (List.mem_append_right _ hm)
    have a1 : (∀ m ∈ l, P m) → ∀ m ∈ l2, P m := fun ha => h2.link P j2 hj2 (hcl j1 (List.mem_append_left _ hj1) (ha j1 hj1) j2 (List.mem_append_right _ hj2) x hq1 hq2) c2
    have a2 : (∀ m ∈ l2, P m) → ∀ m ∈ l, P m := fun ha => h.link P j1 hj1 (hcl j2 (List.mem_append_right _ hj2) (ha j2 hj2) j1 (List.mem_append_left _ hj1) x hq2 hq1) c1
    have : (∀ m ∈ l, P m) ∧ ∀ m ∈ l2, P m := by
      rcases List.mem_append.1 hi with hi | hi
      · have := h.link P i hi hP c1
        exact ⟨this, a1 this⟩
      · have := h2.link P i hi hP c2
        exact ⟨a2 this, this⟩
    intro m hm
    rcases List.mem_append.1 hm with hm | hm
    · exact this.1 m hm
    · exact this.2 m hm
  · rw [sumS_app, sumS_congr q e1, sumS_congr q e2]
theorem Gl.conn (h : Gl ts k l s) (hk : k ≤ ts.length) {x : Int} (hx : sumS ts s l x ≠ 0) : ∀ j ∈ l, ∀ p ∈ cor (tI ts j), Conn (ts.take k) x p := by
  obtain ⟨j0, hj0, hq0, _, _⟩ := h.at hx
  have hmem : ∀ j ∈ l, tI ts j ∈ ts.take k := fun j hj => by
    have := h.rng j hj
    unfold tI
    rw [tri_eq (by omega)]
    rw [List.mem_iff_getElem]
    exact ⟨j.toNat, by simp; omega, by simp⟩
  exact h.link (fun j => ∀ p ∈ cor (tI ts j), Conn (ts.take k) x p) j0 hj0 (fun p hp => conn_cor (hmem j0 hj0) hq0 hp) fun j hj hp m hm q hq hqm p hpm => (hp q hq).trans (conn_cor (hmem m hm) hqm hpm)
end

end Go.Proofs.Ytlbhnicengolfaa

/-! ## FarM: Groups and truths: a valid net has a truth, or some group of it is broken. -/
namespace Go.Proofs.Ytlbhnicengolfaa
open Go.RowKit
set_option linter.unusedVariables false
set_option linter.unusedSimpArgs false

/-- A truth of triangles. -/
structure Tr0 (ts : List Tri) (S : Int → Sp) (x : Int → Int) : Prop where
  sp : ∀ q, InS (S q) (x q)
  tr : ∀ t ∈ ts, Hl x t
def Brk0 (ts : List Tri) (k N : Nat) (S : Int → Sp) : Prop := ∃ l s, Gl ts k l s ∧ 0 < loX (sumS ts s l) S (-1) N
def Far (ts : List Tri) (k N : Nat) : Prop := ∀ S, NE S → (∃ x, Tr0 (ts.take k) S x) ∨ Brk0 ts k N S
def up1 (S : Int → Sp) (x : Int) (s : Sp) : Int → Sp := fun q => if q = x then s else S q
theorem up1_eq (S : Int → Sp) (x : Int) (s : Sp) : up1 S x s x = s := if_pos rfl
theorem up1_ne {S : Int → Sp} {x q : Int} {s : Sp} (h : q ≠ x) : up1 S x s q = S q := if_neg h
theorem up1_NE {S : Int → Sp} (h : NE S) (x v : Int) : NE (up1 S x (v, v)) := fun p => by
  unfold up1; split
  · exact Int.le_refl _
  · exact h p
theorem loX_up {E : Int → Int} {S : Int → Sp} {x : Int} {s : Sp} {N : Nat} (h0 : 0 ≤ x) (hN : x < (N : Int)) : loX E (up1 S x s) (-1) N = loX E S x N + lo1 (E x) s := by
  rw [loX_split h0, if_pos hN, up1_eq]
  congr 1
  exact loX_congr N fun q _ hne => by rw [up1_ne hne]
theorem lo1_pt {c v : Int} (h : c = 1 ∨ c = -1 ∨ c = 0) : lo1 c (v, v) = c * v := by
  unfold lo1
  rcases h with rfl | rfl | rfl
  · rw [if_pos rfl]; omega
  · rw [if_neg (by decide), if_pos rfl]; omega
  · rw [if_neg (by decide), if_neg (by decide)]; omega
theorem lo1_le {c v : Int} {s : Sp} (h : c = 1 ∨ c = -1) (hv : InS s v) : lo1 c s ≤ c * v := by
  unfold lo1; unfold InS at hv
  rcases h with rfl | rfl
  · rw [if_pos rfl]; omega
  · rw [if_neg (by decide), if_pos rfl]; omega
theorem dotF_zero (X : Int → Int) : ∀ k, dotF (fun _ => 0) X k = 0
  | 0 => rfl
  | k + 1 => by unfold dotF; rw [dotF_zero X k]; omega
theorem dotF_sum {ts : List Tri} {N : Nat} {s X : Int → Int} (hin : ∀ t ∈ ts, ∀ o ∈ cor t, 0 ≤ o ∧ o < (N : Int)) (hd : ∀ t ∈ ts, t.1 ≠ t.2.1 ∧ t.1 ≠ t.2.2 ∧ t.2.1 ≠ t.2.2) :
    ∀ {l : List Int}, (∀ j ∈ l, tI ts j ∈ ts) → (∀ j ∈ l, Hl X (tI ts j)) → dotF (sumS ts s l) X N = 0
  | [], _, _ => dotF_zero X N
  | j :: l, hm, hl => by
    have e : sumS ts s (j :: l) = fun q => s j * coe (tI ts j) q + sumS ts s l q := rfl
    have hj := hm j (by simp)
    have h0 := hin _ hj
    rw [e, dotF_lin, dotF_sum hin hd (fun i hi => hm i (by simp [hi])) (fun i hi => hl i (by simp [hi])), dotF_coe (fun o ho => (h0 o ho).1) (hd _ hj)]
    have a := h0 (tI ts j).1 (by simp [cor])
    have b := h0 (tI ts j).2.1 (by simp [cor])
    have c := h0 (tI ts j).2.2 (by simp [cor])
    rw [if_pos a.2, if_pos b.2, if_pos c.2]
    have := hl j (by simp)
    unfold Hl at this
    rw [this]
    simp
/-- The frame: triangles that make no ring, their corners are quantities. -/
structure Fr (ts : List Tri) (N : Nat) : Prop where
  fp : FPs ts
  hin : ∀ t ∈ ts, ∀ o ∈ cor t, 0 ≤ o ∧ o < (N : Int)
section
variable {ts : List Tri} {k N : Nat} {l : List Int} {s : Int → Int} {S : Int → Sp}
theorem Fr.dis (h : Fr ts N) : ∀ t ∈ ts, t.1 ≠ t.2.1 ∧ t.1 ≠ t.2.2 ∧ t.2.1 ≠ t.2.2 := fun t ht => by
  obtain ⟨i, hi, rfl⟩ := List.mem_iff_getElem.1 ht
  have := fps_ne h.fp hi
  rwa [tri_eq hi] at this
theorem tI_take {j : Int} (h0 : 0 ≤ j) (hj : j < (k : Int)) (hk : k ≤ ts.length) : tI ts j ∈ ts.take k := by
  unfold tI
  rw [tri_eq (by omega), List.mem_iff_getElem]
  exact ⟨j.toNat, by simp; omega, by simp⟩
theorem Gl.dot (h : Gl ts k l s) (hf : Fr ts N) (hk : k ≤ ts.length) {X : Int → Int} (hX : ∀ t ∈ ts.take k, Hl X t) : dotF (sumS ts s l) X N = 0 :=
  dotF_sum hf.hin hf.dis (fun j hj => List.mem_of_mem_take (tI_take (h.rng j hj).1 (h.rng j hj).2 hk)) fun j hj => hX _ (tI_take (h.rng j hj).1 (h.rng j hj).2 hk)
theorem Gl.low (h : Gl ts k l s) (hf : Fr ts N) (hk : k ≤ ts.length) {X : Int → Int} (hX : Tr0 (ts.take k) S X) : loX (sumS ts s l) S (-1) N ≤ 0 := by
  have := lo_le (X := X) (S := S) N (fun q _ => h.ent q) fun q _ => hX.sp q
  rwa [h.dot hf hk hX.tr] at this
theorem Gl.lowx (h : Gl ts k l s) (hf : Fr ts N) (hk : k ≤ ts.length) {X : Int → Int} (hX : Tr0 (ts.take k) S X) {x : Int} (h0 : 0 ≤ x) (hN : x < (N : Int)) : loX (sumS ts s l) S x N + sumS ts s l x * X x ≤ 0 := by
  have := h.low (S := up1 S x (X x, X x)) hf hk (X := X) ⟨fun q => by
    by_cases e : q = x
    · subst e; rw [up1_eq]; exact ⟨Int.le_refl _, Int.le_refl _⟩
    · rw [up1_ne e]; exact hX.sp q, hX.tr⟩
  rwa [loX_up h0 hN, lo1_pt (h.ent x)] at this
theorem tr_up {X : Int → Int} {x v : Int} (hv : InS (S x) v) (h : Tr0 (ts.take k) (up1 S x (v, v)) X) : Tr0 (ts.take k) S X ∧ X x = v := by
  have e : X x = v := by have := h.sp x; rw [up1_eq] at this; unfold InS at this; dsimp only at this; omega
  refine ⟨⟨fun q => ?_, h.tr⟩, e⟩
  by_cases hq : q = x
  · subst hq; rw [e]; exact hv
  · have := h.sp q; rwa [up1_ne hq] at this
/-- What lies between two squares of truths is one of a truth. -/
theorem far_mid (F : Far ts k N) (hf : Fr ts N) (hk : k ≤ ts.length) (hS : NE S) {X1 X2 : Int → Int} (h1 : Tr0 (ts.take k) S X1) (h2 : Tr0 (ts.take k) S X2) {x v : Int} (h0 : 0 ≤ x) (hN : x < (N : Int)) (ha : X1 x ≤ v) (hb : v ≤ X2 x) :
    ∃ X, Tr0 (ts.take k) S X ∧ X x = v := by
  have hv : InS (S x) v := ⟨Int.le_trans (h1.sp x).1 ha, Int.le_trans hb (h2.sp x).2⟩
  rcases F (up1 S x (v, v)) (up1_NE hS x v) with ⟨X, hX⟩ | ⟨l, s, g, hg⟩
  · exact ⟨X, tr_up hv hX⟩
  · exfalso
    rw [loX_up h0 hN, lo1_pt (g.ent x)] at hg
    have a := g.lowx hf hk h1 h0 hN
    have b := g.lowx hf hk h2 h0 hN
    rcases g.ent x with e | e | e <;> rw [e] at a b hg <;> omega
/-- A bound of a quantity, by its span or by a group. -/
def FBd (ts : List Tri) (k N : Nat) (S : Int → Sp) (σ x c : Int) : Prop := c = lo1 σ (S x) ∨ ∃ l s, Gl ts k l s ∧ sumS ts s l x = -σ ∧ c = loX (sumS ts s l) S x N
theorem FBd.le {σ x c : Int} (h : FBd ts k N S σ x c) (hσ : σ = 1 ∨ σ = -1) (hf : Fr ts N) (hk : k ≤ ts.length) {X : Int → Int} (hX : Tr0 (ts.take k) S X) (h0 : 0 ≤ x) (hN : x < (N : Int)) : c ≤ σ * X x := by
  rcases h with rfl | ⟨l, s, g, e, rfl⟩
  · exact lo1_le hσ (hX.sp x)
  · have := g.lowx hf hk hX h0 hN
    rw [e] at this
    rcases hσ with rfl | rfl <;> omega
/-- Each end that truths reach is a bound. -/
theorem far_end (F : Far ts k N) (hf : Fr ts N) (hk : k ≤ ts.length) (hS : NE S) {x σ : Int} (hσ : σ = 1 ∨ σ = -1) (h0 : 0 ≤ x) (hN : x < (N : Int)) :
    ∀ (m : Nat) (X0 : Int → Int), Tr0 (ts.take k) S X0 → (σ * X0 x - lo1 σ (S x)).toNat ≤ m → ∃ X, Tr0 (ts.take k) S X ∧ FBd ts k N S σ x (σ * X x)
  | m, X0, h, hm => by
    have hle := lo1_le hσ (h.sp x)
    by_cases e : σ * X0 x = lo1 σ (S x)
    · exact ⟨X0, h, .inl e⟩
    · have hv : InS (S x) (X0 x - σ) := by
        have := h.sp x
        unfold InS at this ⊢
        unfold lo1 at e hle
        rcases hσ with rfl | rfl
        · rw [if_pos rfl] at e hle; omega
        · rw [if_neg (by decide), if_pos rfl] at e hle; omega
      rcases F (up1 S x (X0 x - σ, X0 x - σ)) (up1_NE hS x _) with ⟨X, hX⟩ | ⟨l, s, g, hg⟩
      · obtain ⟨t1, t2⟩ := tr_up hv hX
        have t3 : σ * X x = σ * X0 x - 1 := by rw [t2]; rcases hσ with rfl | rfl <;> omega
        have hle2 := lo1_le hσ (t1.sp x)
        match m, hm with
        | 0, hm => omega
        | m + 1, hm => exact far_end F hf hk hS hσ h0 hN m X t1 (by omega)
      · rw [loX_up h0 hN, lo1_pt (g.ent x)] at hg
        have a := g.lowx hf hk h h0 hN
        refine ⟨X0, h, .inr ⟨l, s, g, ?_, ?_⟩⟩
        · rcases g.ent x with e | e | e <;> rw [e] at a hg ⊢ <;> rcases hσ with rfl | rfl <;> omega
        · rcases g.ent x with e | e | e <;> rw [e] at a hg <;> rcases hσ with rfl | rfl <;> omega

/-- A group around triangle k, with groups joined at the corners D. -/
structure Att (ts : List Tri) (k N : Nat) (S : Int → Sp) (t : Tri) (τ : Int) (D : List Int) (v : Int) (l : List Int) (s : Int → Int) : Prop where
  gl : Gl ts (k + 1) l s
  val : loX (sumS ts s l) S (-1) N = v
  out : ∀ x ∈ cor t, x ∉ D → sumS ts s l x = τ * coe t x
  near : ∀ i ∈ l, i = (k : Int) ∨ ∃ y ∈ D, ∀ p ∈ cor (tI ts i), Conn (ts.take k) y p
theorem att_start (hk : k < ts.length) {τ : Int} (hτ : τ = 1 ∨ τ = -1) : ∃ l s, Att ts k N S (tri ts k) τ [] (loX (fun q => τ * coe (tri ts k) q) S (-1) N) l s := by
  have e : tI ts (k : Int) = tri ts k := by unfold tI; rw [Int.toNat_natCast]
  have es : sumS ts (fun _ => τ) [(k : Int)] = fun q => τ * coe (tri ts k) q := by
    funext q
    show τ * coe (tI ts (k : Int)) q + 0 = _
    rw [e]; omega
  refine ⟨[(k : Int)], fun _ => τ, ⟨fun j hj => ?_, by simp, by simp, fun j _ => hτ, ?_, ?_, ?_⟩, by rw [es], fun x _ _ => by rw [es], fun i hi => .inl (by simpa using hi)⟩
  · have : j = k := by simpa using hj
    omega
  · intro q a ha b hb c hc _ _ _
    left
    rw [List.mem_singleton] at ha hb
    omega
  · intro j hj m hm hne
    rw [List.mem_singleton] at hj hm
    omega
  · intro P i hi hP _ m hm
    rw [List.mem_singleton] at hi hm
    rw [hm, ← hi]; exact hP
theorem att_step (hf : Fr ts N) (hk : k < ts.length) {τ v x c : Int} {D : List Int} (hτ : τ = 1 ∨ τ = -1) (hD : ∀ y ∈ D, y ∈ cor (tri ts k)) (ha : Att ts k N S (tri ts k) τ D v l s) (hx : x ∈ cor (tri ts k)) (hxD : x ∉ D) (hb : FBd ts k N S (τ * coe (tri ts k) x) x c) :
    ∃ l' s', Att ts k N S (tri ts k) τ (x :: D) (v - lo1 (τ * coe (tri ts k) x) (S x) + c) l' s' := by
  have hap : Apart (ts.take k) (tri ts k) := (apart_at hf.fp hk).mono fun y hy => List.mem_append_left _ hy
  have eT : tI ts (k : Int) = tri ts k := by unfold tI; rw [Int.toNat_natCast]
  have hmt : tri ts k ∈ ts := by rw [tri_eq hk]; exact List.getElem_mem _
  have hx0 := hf.hin _ hmt x hx
  rcases hb with rfl | ⟨l2, s2, g2, e2, rfl⟩
  · refine ⟨l, s, ha.gl, by rw [ha.val]; omega, fun y hy hyD => ha.out y hy fun h => hyD (by simp [h]), fun i hi => ?_⟩
    rcases ha.near i hi with h | ⟨y, hy, h⟩
    · exact .inl h
    · exact .inr ⟨y, by simp [hy], h⟩
  · have hone : τ * coe (tri ts k) x = 1 ∨ τ * coe (tri ts k) x = -1 := sign_one hτ hx
    have eo := ha.out x hx hxD
    have hE2 : sumS ts s2 l2 x ≠ 0 := by rw [e2]; omega
    have hconn := g2.conn (Nat.le_of_lt hk) hE2
    have hcross : ∀ i ∈ l, ∀ j ∈ l2, ∀ q, q ∈ cor (tI ts i) → q ∈ cor (tI ts j) → q = x := fun i hi j hj q hqi hqj => by
      have hq := hconn j hj q hqj
      rcases ha.near i hi with rfl | ⟨y, hy, h⟩
      · rw [eT] at hqi
        exact (hap.eq hx hqi hq).symm
      · exact absurd ((hap.eq (hD y hy) hx ((h q hqi).trans hq.symm)) ▸ hy) hxD
    obtain ⟨s', g', hs'⟩ := Gl.join (ts := ts) (k := k + 1) (fun j h0 hj => by
      have hjl : j.toNat < ts.length := by omega
      exact (fps_ne hf.fp hjl).1) ha.gl (g2.mono (Nat.le_succ k)) (x := x) (by rw [eo, e2]; omega) (by rw [eo]; omega) hcross
    refine ⟨l ++ l2, s', g', ?_, fun y hy hyD => ?_, fun i hi => ?_⟩
    · have hv := ha.val
      rw [loX_split hx0.1, if_pos hx0.2, eo] at hv
      rw [loX_split hx0.1, if_pos hx0.2, hs' x, eo, e2, show τ * coe (tri ts k) x + -(τ * coe (tri ts k) x) = 0 by omega, lo1_zero, loX_congr (E' := fun q => sumS ts s l q + sumS ts s2 l2 q) (S' := S) N fun q _ _ => by rw [hs' q], loX_add (E1 := sumS ts s l) (E2 := sumS ts s2 l2) N ?_]
      · omega
      · intro q _ hne
        by_cases z1 : sumS ts s l q = 0
        · rw [z1, lo1_zero, Int.zero_add, Int.zero_add]
        · by_cases z2 : sumS ts s2 l2 q = 0
          · rw [z2, lo1_zero, Int.add_zero, Int.add_zero]
          · obtain ⟨i, hi, hqi, _⟩ := ha.gl.at z1
            obtain ⟨j, hj, hqj, _⟩ := g2.at z2
            exact absurd (hcross i hi j hj q hqi hqj) hne
    · rw [hs' y, ha.out y hy fun h => hyD (by simp [h])]
      have z : sumS ts s2 l2 y = 0 := sumS_none fun j hj hqj => hyD (by rw [hap.eq hx hy (hconn j hj y hqj)]; simp)
      rw [z]; omega
    · rcases List.mem_append.1 hi with hi | hi
      · rcases ha.near i hi with h | ⟨y, hy, h⟩
        · exact .inl h
        · exact .inr ⟨y, by simp [hy], h⟩
      · exact .inr ⟨x, by simp, hconn i hi⟩
theorem loX_dot {E F X : Int → Int} : ∀ k : Nat, (∀ q : Nat, q < k → lo1 (E q) (S q) = F q * X q) → loX E S (-1) k = dotF F X k
  | 0, _ => rfl
  | k + 1, h => by
    unfold loX dotF
    rw [loX_dot k fun q hq => h q (by omega), if_neg (by omega), h k (by omega)]
theorem loX_coe (hf : Fr ts N) (hk : k < ts.length) (τ : Int) : loX (fun q => τ * coe (tri ts k) q) S (-1) N = lo1 τ (S (tri ts k).1) + lo1 τ (S (tri ts k).2.1) + lo1 (-τ) (S (tri ts k).2.2) := by
  have hmt : tri ts k ∈ ts := by rw [tri_eq hk]; exact List.getElem_mem _
  have hd := hf.dis _ hmt
  have h0 := hf.hin _ hmt
  rw [loX_dot (F := coe (tri ts k)) (X := fun q => if coe (tri ts k) q = 1 then lo1 τ (S q) else -lo1 (-τ) (S q)) N ?_, dotF_coe (fun o ho => (h0 o ho).1) hd, if_pos (h0 _ (by simp [cor])).2, if_pos (h0 _ (by simp [cor])).2, if_pos (h0 _ (by simp [cor])).2]
  · have e1 : coe (tri ts k) (tri ts k).1 = 1 := by unfold coe; rw [if_pos (.inl rfl)]
    have e2 : coe (tri ts k) (tri ts k).2.1 = 1 := by unfold coe; rw [if_pos (.inr rfl)]
    have e3 : coe (tri ts k) (tri ts k).2.2 = -1 := by unfold coe; rw [if_neg (fun e => e.elim (fun e => hd.2.1 e.symm) (fun e => hd.2.2 e.symm)), if_pos rfl]
    rw [e1, e2, e3, if_pos rfl, if_pos rfl, if_neg (by decide)]
    omega
  · intro q _
    have h3 : coe (tri ts k) q = 1 ∨ coe (tri ts k) q = -1 ∨ coe (tri ts k) q = 0 := by
      unfold coe
      split
      · exact .inl rfl
      · split
        · exact .inr (.inl rfl)
        · exact .inr (.inr rfl)
    rcases h3 with e | e | e
    · rw [e, if_pos rfl, Int.mul_one]; omega
    · rw [e, if_neg (by decide), show τ * -1 = -τ by omega]; omega
    · rw [e, if_neg (by decide), Int.mul_zero, lo1_zero]; omega
/-- The three bounds of a triangle together are above 0: a broken group. -/
theorem att_all (hf : Fr ts N) (hk : k < ts.length) {τ ca cb cw : Int} (hτ : τ = 1 ∨ τ = -1) (ha : FBd ts k N S τ (tri ts k).1 ca) (hb : FBd ts k N S τ (tri ts k).2.1 cb) (hw : FBd ts k N S (-τ) (tri ts k).2.2 cw) (h : 0 < ca + cb + cw) : Brk0 ts (k + 1) N S := by
  have hmt : tri ts k ∈ ts := by rw [tri_eq hk]; exact List.getElem_mem _
  have hd := hf.dis _ hmt
  have e1 : τ * coe (tri ts k) (tri ts k).1 = τ := by unfold coe; rw [if_pos (.inl rfl), Int.mul_one]
  have e2 : τ * coe (tri ts k) (tri ts k).2.1 = τ := by unfold coe; rw [if_pos (.inr rfl), Int.mul_one]
  have e3 : τ * coe (tri ts k) (tri ts k).2.2 = -τ := by unfold coe; rw [if_neg (fun e => e.elim (fun e => hd.2.1 e.symm) (fun e => hd.2.2 e.symm)), if_pos rfl]; omega
  obtain ⟨l0, s0, a0⟩ := att_start (N := N) (S := S) hk hτ
  obtain ⟨l1, s1, a1⟩ := att_step hf hk hτ (by simp) a0 (x := (tri ts k).1) (c := ca) (by simp [cor]) (by simp) (by rw [e1]; exact ha)
  obtain ⟨l2, s2, a2⟩ := att_step hf hk hτ (by simp [cor]) a1 (x := (tri ts k).2.1) (c := cb) (by simp [cor]) (by simp; exact fun e => hd.1 e.symm) (by rw [e2]; exact hb)
  obtain ⟨l3, s3, a3⟩ := att_step hf hk hτ (by simp [cor]) a2 (x := (tri ts k).2.2) (c := cw) (by simp [cor]) (by simp; exact ⟨fun e => hd.2.2 e.symm, fun e => hd.2.1 e.symm⟩) (by rw [e3]; exact hw)
  refine ⟨l3, s3, a3.gl, ?_⟩
  rw [a3.val, e1, e2, e3, loX_coe hf hk]
  omega
theorem far_all (hf : Fr ts N) : ∀ k, k ≤ ts.length → Far ts k N
  | 0, _ => fun S hS => .inl ⟨fun q => (S q).1, fun q => ⟨Int.le_refl _, hS q⟩, by simp⟩
  | k + 1, hk => by
    have F := far_all hf k (by omega)
    have hk' : k < ts.length := hk
    have hkl : k ≤ ts.length := by omega
    intro S hS
    rcases F S hS with ⟨X0, h0⟩ | ⟨l, s, g, hg⟩
    · have hmt : tri ts k ∈ ts := by rw [tri_eq hk']; exact List.getElem_mem _
      have hin := hf.hin _ hmt
      have hap : Apart (ts.take k) (tri ts k) := (apart_at hf.fp hk').mono fun y hy => List.mem_append_left _ hy
      have htk : ts.take (k + 1) = ts.take k ++ [tri ts k] := by rw [tri_eq hk', List.take_succ_eq_append_getElem hk']
      generalize hT : tri ts k = t at *
      obtain ⟨ia, ib, iw⟩ : (0 ≤ t.1 ∧ t.1 < (N : Int)) ∧ (0 ≤ t.2.1 ∧ t.2.1 < (N : Int)) ∧ (0 ≤ t.2.2 ∧ t.2.2 < (N : Int)) := ⟨hin _ (by simp [cor]), hin _ (by simp [cor]), hin _ (by simp [cor])⟩
      obtain ⟨A1, tA1, bA1⟩ := far_end F hf hkl hS (σ := 1) (.inl rfl) ia.1 ia.2 _ X0 h0 (Nat.le_refl _)
      obtain ⟨A2, tA2, bA2⟩ := far_end F hf hkl hS (σ := -1) (.inr rfl) ia.1 ia.2 _ X0 h0 (Nat.le_refl _)
      obtain ⟨B1, tB1, bB1⟩ := far_end F hf hkl hS (σ := 1) (.inl rfl) ib.1 ib.2 _ X0 h0 (Nat.le_refl _)
      obtain ⟨B2, tB2, bB2⟩ := far_end F hf hkl hS (σ := -1) (.inr rfl) ib.1 ib.2 _ X0 h0 (Nat.le_refl _)
      obtain ⟨W1, tW1, bW1⟩ := far_end F hf hkl hS (σ := 1) (.inl rfl) iw.1 iw.2 _ X0 h0 (Nat.le_refl _)
      obtain ⟨W2, tW2, bW2⟩ := far_end F hf hkl hS (σ := -1) (.inr rfl) iw.1 iw.2 _ X0 h0 (Nat.le_refl _)
      have lA := bA1.le (.inl rfl) hf hkl tA2 ia.1 ia.2
      have lB := bB1.le (.inl rfl) hf hkl tB2 ib.1 ib.2
      have lW := bW1.le (.inl rfl) hf hkl tW2 iw.1 iw.2
      by_cases c1 : W2 t.2.2 < A1 t.1 + B1 t.2.1
      · right
        subst hT
        exact att_all hf hk' (τ := 1) (.inl rfl) bA1 bB1 bW2 (by omega)
      · by_cases c2 : A2 t.1 + B2 t.2.1 < W1 t.2.2
        · right
          subst hT
          exact att_all hf hk' (τ := -1) (.inr rfl) bA2 bB2 bW1 (by omega)
        · left
          obtain ⟨vw, va, vb, e, p1, p2, p3, p4, p5, p6⟩ : ∃ vw va vb, va + vb = vw ∧ A1 t.1 ≤ va ∧ va ≤ A2 t.1 ∧ B1 t.2.1 ≤ vb ∧ vb ≤ B2 t.2.1 ∧ W1 t.2.2 ≤ vw ∧ vw ≤ W2 t.2.2 := by
            refine ⟨max (W1 t.2.2) (A1 t.1 + B1 t.2.1), A1 t.1 + min (A2 t.1 - A1 t.1) (max (W1 t.2.2) (A1 t.1 + B1 t.2.1) - A1 t.1 - B1 t.2.1), max (W1 t.2.2) (A1 t.1 + B1 t.2.1) - (A1 t.1 + min (A2 t.1 - A1 t.1) (max (W1 t.2.2) (A1 t.1 + B1 t.2.1) - A1 t.1 - B1 t.2.1)), ?_, ?_, ?_, ?_, ?_, ?_, ?_⟩ <;> omega
          obtain ⟨Xa, ta, ea⟩ := far_mid F hf hkl hS tA1 tA2 ia.1 ia.2 p1 p2
          obtain ⟨Xb, tb, eb⟩ := far_mid F hf hkl hS tB1 tB2 ib.1 ib.2 p3 p4
          obtain ⟨Xw, tw, ew⟩ := far_mid F hf hkl hS tW1 tW2 iw.1 iw.2 p5 p6
          have n21 : ¬ Conn (ts.take k) t.2.1 t.1 := fun h => hap.1 h.symm
          have n31 : ¬ Conn (ts.take k) t.2.2 t.1 := fun h => hap.2.1 h.symm
          have n23 : ¬ Conn (ts.take k) t.2.1 t.2.2 := hap.2.2
          refine ⟨mix (Conn (ts.take k) t.2.1) Xb (mix (Conn (ts.take k) t.2.2) Xw Xa), fun p => ?_, fun t' ht' => ?_⟩
          · by_cases h2 : Conn (ts.take k) t.2.1 p
            · rw [mix_yes h2]; exact tb.sp p
            · rw [mix_no h2]
              by_cases h3 : Conn (ts.take k) t.2.2 p
              · rw [mix_yes h3]; exact tw.sp p
              · rw [mix_no h3]; exact ta.sp p
          · rw [htk, List.mem_append, List.mem_singleton] at ht'
            rcases ht' with ht' | rfl
            · have cc : ∀ c d, c ∈ cor t' → d ∈ cor t' → Conn (ts.take k) c d := fun c d h h' => conn_cor ht' h h'
              have ma : t'.1 ∈ cor t' := by simp [cor]
              have mb : t'.2.1 ∈ cor t' := by simp [cor]
              have mw : t'.2.2 ∈ cor t' := by simp [cor]
              unfold Hl
              by_cases h2 : Conn (ts.take k) t.2.1 t'.1
              · rw [mix_yes h2, mix_yes (h2.trans (cc _ _ ma mb)), mix_yes (h2.trans (cc _ _ ma mw))]
                exact tb.tr t' ht'
              · have z1 : ¬ Conn (ts.take k) t.2.1 t'.2.1 := fun h => h2 (h.trans (cc _ _ mb ma))
                have z2 : ¬ Conn (ts.take k) t.2.1 t'.2.2 := fun h => h2 (h.trans (cc _ _ mw ma))
                rw [mix_no h2, mix_no z1, mix_no z2]
                by_cases h3 : Conn (ts.take k) t.2.2 t'.1
                · rw [mix_yes h3, mix_yes (h3.trans (cc _ _ ma mb)), mix_yes (h3.trans (cc _ _ ma mw))]
                  exact tw.tr t' ht'
                · have z3 : ¬ Conn (ts.take k) t.2.2 t'.2.1 := fun h => h3 (h.trans (cc _ _ mb ma))
                  have z4 : ¬ Conn (ts.take k) t.2.2 t'.2.2 := fun h => h3 (h.trans (cc _ _ mw ma))
                  rw [mix_no h3, mix_no z3, mix_no z4]
                  exact ta.tr t' ht'
            · unfold Hl
              rw [mix_no n21, mix_no n31, mix_yes .refl, mix_no n23, mix_yes .refl, ea, eb, ew]
              exact e
    · exact .inr ⟨l, s, g.mono (Nat.le_succ k), hg⟩
end

end Go.Proofs.Ytlbhnicengolfaa

/-! ## FarN: A valid net has a truth just if no group is broken; ends of truths are bounds by groups (as the reference says). -/
namespace Go.Proofs.Ytlbhnicengolfaa
open Go.RowKit
set_option linter.unusedVariables false
set_option linter.unusedSimpArgs false

theorem nok_fr {n : TNet} (h : NOk n) : Fr n.ts n.sp.length := ⟨fps_of (nok_frst h), nok_in h⟩
/-- Groups of the code are groups. -/
theorem grp_gl {n : TNet} (h : NOk n) {m : Nat} (h1 : 1 ≤ m) (h2 : m < 2 ^ n.ts.length) (hg : (grpR n.ts (bitsK m n.ts.length) n.sp.length).2 = true) :
    ∃ s, Gl n.ts n.ts.length (bitsK m n.ts.length) s ∧ ∀ q : Nat, q < n.sp.length → (grpR n.ts (bitsK m n.ts.length) n.sp.length).1.getD q 0 = sumS n.ts s (bitsK m n.ts.length) q := by
  have hl := bits_ne h1 h2
  have hlo := nok_lok h m
  have hl2 := h.l2
  have hl3 := h.l3
  have hlen := bitsK_len m n.ts.length
  unfold grpR at hg ⊢
  by_cases hy : (grpS n.ts (bitsK m n.ts.length) n.sp.length).good = true ∧ (grpS n.ts (bitsK m n.ts.length) n.sp.length).left = 0
  · obtain ⟨hT, hL⟩ := (grp_yes hlo hl (nok_in h)).1 hy
    obtain ⟨s, hs⟩ := grp_is hlo hl (N := n.sp.length) (by omega) (by omega) (nok_in h) hT hL
    have hlk : ∀ (P : Int → Prop), ∀ i ∈ bitsK m n.ts.length, P i → (∀ j ∈ bitsK m n.ts.length, P j → ∀ m' ∈ bitsK m n.ts.length, ∀ q, q ∈ cor (tI n.ts j) → q ∈ cor (tI n.ts m') → P m') → ∀ m' ∈ bitsK m n.ts.length, P m' := by
      intro P i hi hP hc
      refine hL P ?_ hc
      refine Classical.byContradiction fun hn => ?_
      exact hL (fun j => ¬ P j) hn (fun j hj hnj k hk q hq hqk hp => hnj (hc k hk hp j hj q hqk hq)) i hi hP
    have hne : bitsK m n.ts.length ≠ [] := fun e => hl (by rw [e]; rfl)
    have hone := hs.one
    have hout := hs.out
    have hlx := hs.len
    rw [if_pos hy]
    generalize (grpS n.ts (bitsK m n.ts.length) n.sp.length).out = xs at *
    by_cases hneg : xs.getD (nzIdx xs) 0 < 0
    · rw [if_pos hneg]
      refine ⟨fun j => -s j, ⟨fun j hj => hlo.rng j hj, hlo.nd, hne, fun j hj => by have := hs.sg.one j hj; omega, hT, fun j hj k hk e q hq hqk => ?_, hlk⟩, fun q hq => ?_⟩
      · have := hs.sg.can j hj k hk e q hq hqk
        rw [this]; grind
      · have e : ∀ l : List Int, sumS n.ts (fun j => -s j) l q = -sumS n.ts s l q := fun l => by
          induction l with
          | nil => rfl
          | cons a l ih => rw [sumS_cons, sumS_cons, ih]; grind
        rw [e]
        dsimp only
        have h1 := hone q hq
        have h2 := hout q hq
        rw [List.getD_eq_getElem?_getD, List.getElem?_eq_getElem (by omega : q < xs.length), Option.getD_some] at h2
        rw [List.getD_eq_getElem?_getD, List.getElem?_map, List.getElem?_eq_getElem (by omega : q < xs.length), Option.map_some, Option.getD_some, h2]
        unfold negW
        rw [IntWalk.wrap64_in _ (by omega)]
    · rw [if_neg hneg]
      exact ⟨s, ⟨fun j hj => hlo.rng j hj, hlo.nd, hne, hs.sg.one, hT, fun j hj k hk e q hq hqk => hs.sg.can j hj k hk e q hq hqk, hlk⟩, fun q hq => hout q hq⟩
  · rw [if_neg hy] at hg
    cases hg
theorem ex_bits (P : Nat → Prop) : ∀ T, ∃ m, m < 2 ^ T ∧ ∀ k, k < T → (m.testBit k = true ↔ P k)
  | 0 => ⟨0, by decide, fun k hk => by omega⟩
  | T + 1 => by
    obtain ⟨m, h1, h2⟩ := ex_bits P T
    by_cases hp : P T
    · refine ⟨2 ^ T + m, by rw [Nat.pow_succ]; omega, fun k hk => ?_⟩
      by_cases e : k = T
      · subst e
        rw [Nat.testBit_two_pow_add_eq, Nat.testBit_lt_two_pow h1]
        simp [hp]
      · rw [Nat.testBit_two_pow_add_gt (by omega)]
        exact h2 k (by omega)
    · refine ⟨m, by rw [Nat.pow_succ]; omega, fun k hk => ?_⟩
      by_cases e : k = T
      · subst e
        rw [Nat.testBit_lt_two_pow h1]
        simp [hp]
      · exact h2 k (by omega)
/-- Groups are groups of the code. -/
theorem gl_grp {n : TNet} (h : NOk n) {l : List Int} {s : Int → Int} (g : Gl n.ts n.ts.length l s) :
    ∃ m, 1 ≤ m ∧ m < 2 ^ n.ts.length ∧ (grpR n.ts (bitsK m n.ts.length) n.sp.length).2 = true ∧ ∃ ε : Int, (ε = 1 ∨ ε = -1) ∧ ∀ q : Nat, q < n.sp.length → (grpR n.ts (bitsK m n.ts.length) n.sp.length).1.getD q 0 = ε * sumS n.ts s l q := by
  obtain ⟨m, hm, hb⟩ := ex_bits (fun k => (k : Int) ∈ l) n.ts.length
  have hmem : ∀ x, x ∈ bitsK m n.ts.length ↔ x ∈ l := fun x => by
    rw [mem_bitsK]
    constructor
    · rintro ⟨k, k1, k2, rfl⟩
      exact (hb k k1).1 k2
    · intro hx
      have := g.rng x hx
      exact ⟨x.toNat, by omega, (hb _ (by omega)).2 (by rw [show ((x.toNat : Nat) : Int) = x by omega]; exact hx), by omega⟩
  have hperm : (bitsK m n.ts.length).Perm l := (List.perm_ext_iff_of_nodup (bitsK_nd m _) g.nd).2 hmem
  have hl : (bitsK m n.ts.length).length ≠ 0 := by
    rw [hperm.length_eq]
    intro e
    exact g.ne (List.length_eq_zero_iff.1 e)
  have h1 : 1 ≤ m := by
    rcases Nat.eq_zero_or_pos m with rfl | h
    · rw [bitsK_all] at hl; exact absurd rfl hl
    · exact h
  have hlo := nok_lok h m
  have hT : Two n.ts (bitsK m n.ts.length) := fun q a ha b hb c hc => g.two q a ((hmem a).1 ha) b ((hmem b).1 hb) c ((hmem c).1 hc)
  have hL : Linked n.ts (bitsK m n.ts.length) := fun S hS hc => by
    have := g.link S _ ((hmem _).1 (first_in hl)) hS (fun j hj hp k hk q hq hqk => hc j ((hmem j).2 hj) hp k ((hmem k).2 hk) q hq hqk)
    exact fun k hk => this k ((hmem k).1 hk)
  have hg : (grpR n.ts (bitsK m n.ts.length) n.sp.length).2 = true := by
    unfold grpR
    rw [if_pos ((grp_yes hlo hl (nok_in h)).2 ⟨hT, hL⟩)]
  refine ⟨m, h1, hm, hg, ?_⟩
  obtain ⟨s', g', hs'⟩ := grp_gl h h1 hm hg
  have h0 := first_in hl
  generalize hj0 : (bitsK m n.ts.length).getD 0 0 = j0 at *
  obtain ⟨ε, hε, he⟩ : ∃ ε : Int, (ε = 1 ∨ ε = -1) ∧ s' j0 = ε * s j0 := by
    rcases g'.one _ h0 with a | a <;> rcases g.one _ ((hmem _).1 h0) with b | b
    · exact ⟨1, .inl rfl, by rw [a, b]; rfl⟩
    · exact ⟨-1, .inr rfl, by rw [a, b]; rfl⟩
    · exact ⟨-1, .inr rfl, by rw [a, b]; rfl⟩
    · exact ⟨1, .inl rfl, by rw [a, b]; rfl⟩
  refine ⟨ε, hε, fun q hq => ?_⟩
  have hall : ∀ j ∈ bitsK m n.ts.length, s' j = ε * s j := g'.link (fun j => s' j = ε * s j) j0 h0 he fun j hj hp k hk q hq hqk => by
    by_cases e : j = k
    · rw [← e]; exact hp
    · rw [g'.can j hj k hk e q hq hqk, g.can j ((hmem j).1 hj) k ((hmem k).1 hk) e q hq hqk, hp]
      grind
  rw [hs' q hq, sumS_congr (s' := fun j => ε * s j) _ hall]
  have e : ∀ l : List Int, sumS n.ts (fun j => ε * s j) l q = ε * sumS n.ts s l q := fun l => by
    induction l with
    | nil => simp [sumS]
    | cons a l ih => rw [sumS_cons, sumS_cons, ih]; grind
  rw [e, sumS_perm hperm]

/-- What the reference reckons of an equation. -/
def cI (cs : List Int) : Int → Int := fun q => cs.getD q.toNat 0
theorem loX_neg_up {E : Int → Int} {S : Int → Sp} {x : Int} : ∀ k : Nat, loX E S x k = loX (fun q => E q) S x k := fun _ => rfl
theorem fnS_nat (ls : List Sp) (k : Nat) : fnS ls (k : Int) = ls.getD k (0, 0) := by unfold fnS; rw [if_pos (by omega), spA_nat]
theorem reK_lo {sp : List Sp} {cs : List Int} {but : Int} (h1 : ∀ q, q < sp.length → cs.getD q 0 = 1 ∨ cs.getD q 0 = -1 ∨ cs.getD q 0 = 0) : ∀ k, k ≤ sp.length →
    reK sp cs but k = (loX (cI cs) (fnS (sqs sp)) but k, -loX (fun q => -cI cs q) (fnS (sqs sp)) but k)
  | 0, _ => rfl
  | k + 1, hk => by
    have ih := reK_lo (but := but) h1 k (by omega)
    have h := h1 k (by omega)
    have e : cI cs (k : Int) = cs.getD k 0 := by unfold cI; rw [Int.toNat_natCast]
    show reS sp cs but _ k = _
    unfold loX
    rw [ih, e, fnS_nat, sqs_at (by omega)]
    unfold reS lo1 plusS minusS
    dsimp only
    generalize cs.getD k 0 = c at *
    by_cases hb : (k : Int) = but
    · rw [if_neg (fun h => h.1 hb), if_neg (fun h => h.1 hb), if_pos hb, if_pos hb]
      exact Prod.ext (by dsimp only; omega) (by dsimp only; omega)
    · rw [if_neg hb, if_neg hb]
      rcases h with e | e | e
      · subst e
        rw [if_pos (show (k : Int) ≠ but ∧ (0 : Int) < 1 from ⟨hb, by decide⟩)]
        exact Prod.ext (by dsimp only; rw [if_pos rfl]) (by dsimp only; rw [if_neg (by decide), if_pos (by decide)]; omega)
      · subst e
        rw [if_neg (show ¬ ((k : Int) ≠ but ∧ (0 : Int) < -1) from fun h => absurd h.2 (by decide)), if_pos (show (k : Int) ≠ but ∧ (-1 : Int) < 0 from ⟨hb, by decide⟩)]
        exact Prod.ext (by dsimp only; rw [if_neg (by decide), if_pos rfl]; omega) (by dsimp only; rw [if_pos (by decide)]; omega)
      · subst e
        rw [if_neg (show ¬ ((k : Int) ≠ but ∧ (0 : Int) < 0) from fun h => absurd h.2 (by decide)), if_neg (show ¬ ((k : Int) ≠ but ∧ (0 : Int) < 0) from fun h => absurd h.2 (by decide))]
        exact Prod.ext (by dsimp only; rw [if_neg (by decide), if_neg (by decide)]; omega) (by dsimp only; rw [if_neg (by decide), if_neg (by decide)]; omega)
theorem Gl.neg {ts : List Tri} {k : Nat} {l : List Int} {s : Int → Int} (g : Gl ts k l s) : Gl ts k l (fun j => -s j) ∧ ∀ q, sumS ts (fun j => -s j) l q = -sumS ts s l q :=
  ⟨⟨g.rng, g.nd, g.ne, fun j hj => by have := g.one j hj; omega, g.two, fun j hj m hm e q hq hqm => by have := g.can j hj m hm e q hq hqm; rw [this]; grind, g.link⟩, fun q => by
    generalize l = l'
    induction l' with
    | nil => rfl
    | cons a l ih => rw [sumS_cons, sumS_cons, ih]; grind⟩
/-- Truths as functions. -/
theorem tru_iff {ts : List Tri} {ls : List Sp} (hin : ∀ t ∈ ts, ∀ o ∈ cor t, 0 ≤ o ∧ o < (ls.length : Int)) {q y : Int} (h0 : 0 ≤ q) (hq : q < (ls.length : Int)) : (∃ x, x q = y ∧ Tru ts ls x) ↔ ∃ x, Tr0 ts (fnS ls) x ∧ x q = y := by
  constructor
  · rintro ⟨x, e, hx⟩
    refine ⟨fun q => if 0 ≤ q ∧ q < (ls.length : Int) then x q else 0, ⟨fun p => ?_, fun t ht => ?_⟩, by dsimp only; rw [if_pos ⟨h0, hq⟩, e]⟩
    · unfold fnS
      by_cases h0 : 0 ≤ p
      · rw [if_pos h0]
        by_cases hq : p < (ls.length : Int)
        · rw [if_pos ⟨h0, hq⟩]; exact hx.sp p h0 hq
        · rw [if_neg (by omega), spA_out (by omega)]; exact ⟨Int.le_refl _, Int.le_refl _⟩
      · rw [if_neg h0, if_neg (by omega)]; exact ⟨Int.le_refl _, Int.le_refl _⟩
    · unfold Hl
      dsimp only
      rw [if_pos (hin t ht _ (by simp [cor])), if_pos (hin t ht _ (by simp [cor])), if_pos (hin t ht _ (by simp [cor]))]
      exact hx.tr t ht
  · rintro ⟨x, hx, e⟩
    refine ⟨x, e, fun p h0 hp => ?_, hx.tr⟩
    have := hx.sp p
    unfold fnS at this
    rwa [if_pos h0] at this
/-- Does the reference call a net possible? -/
def rPos1 (n : TNet) (m : Nat) : Bool := !(rEq n.ts n.sp.length m).2 || (decide ((reK n.sp (rEq n.ts n.sp.length m).1 (-1) n.sp.length).1 ≤ 0) && decide (0 ≤ (reK n.sp (rEq n.ts n.sp.length m).1 (-1) n.sp.length).2))
/-- .. of the sets below m. -/
def rPosK (n : TNet) : Nat → Bool
  | 0 => true
  | m + 1 => rPosK n m && (decide (m = 0) || rPos1 n m)
def rPos (n : TNet) : Bool := rPosK n (2 ^ n.ts.length)
theorem rPosK_all {n : TNet} : ∀ {k}, rPosK n k = true ↔ ∀ m, 1 ≤ m → m < k → rPos1 n m = true
  | 0 => by simp [rPosK]
  | k + 1 => by
    unfold rPosK
    rw [Bool.and_eq_true, rPosK_all, Bool.or_eq_true, decide_eq_true_eq]
    constructor
    · rintro ⟨a, b⟩ m h1 h2
      by_cases e : m = k
      · subst e
        rcases b with b | b
        · omega
        · exact b
      · exact a m h1 (by omega)
    · intro h
      refine ⟨fun m h1 h2 => h m h1 (by omega), ?_⟩
      by_cases e : k = 0
      · exact .inl e
      · exact .inr (h k (by omega) (by omega))
theorem req_grp {n : TNet} (h : NOk n) {m : Nat} (h1 : 1 ≤ m) (h2 : m < 2 ^ n.ts.length) : rEq n.ts n.sp.length m = grpR n.ts (bitsK m n.ts.length) n.sp.length := by
  have hl2 := h.l2
  have hl3 := h.l3
  have hlen := bitsK_len m n.ts.length
  exact rEq_is rfl (nok_lok h m) (bits_ne h1 h2) (fun k hk => Classical.byContradiction fun hx => by
    rw [Nat.testBit_lt_two_pow (Nat.lt_of_lt_of_le h2 (Nat.pow_le_pow_right (by omega) (by omega)))] at hk
    cases hk) (nok_in h) (by omega) (by omega)
/-- The squares of spans that are none of those of a valid net: an own list. -/
structure SpOk (n : TNet) (sp : List Sp) : Prop where
  len : sp.length = n.sp.length
  le : NE (fnS (sqs sp))
theorem nok_spok {n : TNet} (h : NOk n) : SpOk n n.sp := ⟨rfl, fun p => by
  unfold fnS
  by_cases h0 : 0 ≤ p
  · rw [if_pos h0]
    by_cases hq : p < (n.sp.length : Int)
    · have hp : p.toNat < n.sp.length := by omega
      have := h.sp p.toNat hp
      unfold spA
      rw [sqs_at hp]
      exact sq_mono this.1 this.2.1
    · rw [spA_out (by rw [sqs_len]; omega)]; exact Int.le_refl _
  · rw [if_neg h0]; exact Int.le_refl _⟩
theorem gl_ones {n : TNet} (h : NOk n) {m : Nat} (h1 : 1 ≤ m) (h2 : m < 2 ^ n.ts.length) (hg : (grpR n.ts (bitsK m n.ts.length) n.sp.length).2 = true) : ∀ q, q < n.sp.length → (grpR n.ts (bitsK m n.ts.length) n.sp.length).1.getD q 0 = 1 ∨ (grpR n.ts (bitsK m n.ts.length) n.sp.length).1.getD q 0 = -1 ∨ (grpR n.ts (bitsK m n.ts.length) n.sp.length).1.getD q 0 = 0 :=
  (grp_ones h (bits_ne h1 h2) hg).2.1
theorem cI_at {cs : List Int} {q : Nat} : cI cs (q : Int) = cs.getD q 0 := by unfold cI; rw [Int.toNat_natCast]
/-- A net with the triangles of a valid one is possible for the reference just if it has a truth. -/
theorem rPos_is {n : TNet} (h : NOk n) {sp : List Sp} (hs : SpOk n sp) : rPos ⟨sp, n.ts⟩ = true ↔ ∃ x, Tru n.ts (sqs sp) x := by
  have hl1 := h.l1
  have hsl := hs.len
  have hin : ∀ t ∈ n.ts, ∀ o ∈ cor t, 0 ≤ o ∧ o < ((sqs sp).length : Int) := by rw [sqs_len, hsl]; exact nok_in h
  have hex : (∃ x, Tru n.ts (sqs sp) x) ↔ ∃ x, Tr0 n.ts (fnS (sqs sp)) x := by
    constructor
    · rintro ⟨x, hx⟩
      obtain ⟨y, hy, _⟩ := (tru_iff hin (q := 0) (y := x 0) (Int.le_refl _) (by rw [sqs_len]; omega)).1 ⟨x, rfl, hx⟩
      exact ⟨y, hy⟩
    · rintro ⟨x, hx⟩
      obtain ⟨y, _, hy⟩ := (tru_iff hin (q := 0) (y := x 0) (Int.le_refl _) (by rw [sqs_len]; omega)).2 ⟨x, hx, rfl⟩
      exact ⟨y, hy⟩
  rw [hex]
  have key : ∀ {m}, 1 ≤ m → m < 2 ^ n.ts.length → (grpR n.ts (bitsK m n.ts.length) n.sp.length).2 = true → reK sp (grpR n.ts (bitsK m n.ts.length) n.sp.length).1 (-1) sp.length = (loX (cI (grpR n.ts (bitsK m n.ts.length) n.sp.length).1) (fnS (sqs sp)) (-1) n.sp.length, -loX (fun q => -cI (grpR n.ts (bitsK m n.ts.length) n.sp.length).1 q) (fnS (sqs sp)) (-1) n.sp.length) := fun h1 h2 hg => by
    rw [reK_lo (fun q hq => gl_ones h h1 h2 hg q (by omega)) _ (Nat.le_refl _), hsl]
  unfold rPos
  rw [rPosK_all]
  show (∀ m, 1 ≤ m → m < 2 ^ n.ts.length → _) ↔ _
  constructor
  · intro hall
    rcases far_all (nok_fr h) n.ts.length (Nat.le_refl _) (fnS (sqs sp)) hs.le with ⟨x, hx⟩ | ⟨l, s, g, hg⟩
    · rw [List.take_length] at hx; exact ⟨x, hx⟩
    · exfalso
      obtain ⟨m, h1, h2, hy, ε, hε, ho⟩ := gl_grp h g
      have hm := hall m h1 h2
      unfold rPos1 at hm
      dsimp only at hm
      rw [hsl, req_grp h h1 h2, hy] at hm
      have hk := key h1 h2 hy
      rw [hsl] at hk
      rw [hk, Bool.not_true, Bool.false_or, Bool.and_eq_true, decide_eq_true_eq, decide_eq_true_eq] at hm
      dsimp only at hm
      rcases hε with rfl | rfl
      · have : loX (cI (grpR n.ts (bitsK m n.ts.length) n.sp.length).1) (fnS (sqs sp)) (-1) n.sp.length = loX (sumS n.ts s l) (fnS (sqs sp)) (-1) n.sp.length := loX_congr _ fun q hq _ => by rw [cI_at, ho q hq, Int.one_mul]
        omega
      · have : loX (fun q => -cI (grpR n.ts (bitsK m n.ts.length) n.sp.length).1 q) (fnS (sqs sp)) (-1) n.sp.length = loX (sumS n.ts s l) (fnS (sqs sp)) (-1) n.sp.length := loX_congr _ fun q hq _ => by rw [cI_at, ho q hq]; congr 1; omega
        omega
  · rintro ⟨x, hx⟩ m h1 h2
    unfold rPos1
    dsimp only
    rw [hsl, req_grp h h1 h2]
    cases hy : (grpR n.ts (bitsK m n.ts.length) n.sp.length).2 with
    | false => rfl
    | true =>
      obtain ⟨s, g, ho⟩ := grp_gl h h1 h2 hy
      have hk := key h1 h2 hy
      rw [hsl] at hk
      rw [hk, Bool.not_true, Bool.false_or, Bool.and_eq_true, decide_eq_true_eq, decide_eq_true_eq]
      have hx' : Tr0 (n.ts.take n.ts.length) (fnS (sqs sp)) x := by rw [List.take_length]; exact hx
      have a := g.low (nok_fr h) (Nat.le_refl _) hx'
      obtain ⟨g2, e2⟩ := g.neg
      have b := g2.low (nok_fr h) (Nat.le_refl _) hx'
      have e1 : loX (cI (grpR n.ts (bitsK m n.ts.length) n.sp.length).1) (fnS (sqs sp)) (-1) n.sp.length = loX (sumS n.ts s (bitsK m n.ts.length)) (fnS (sqs sp)) (-1) n.sp.length := loX_congr _ fun q hq _ => by rw [cI_at, ho q hq]
      have e3 : loX (fun q => -cI (grpR n.ts (bitsK m n.ts.length) n.sp.length).1 q) (fnS (sqs sp)) (-1) n.sp.length = loX (sumS n.ts (fun j => -s j) (bitsK m n.ts.length)) (fnS (sqs sp)) (-1) n.sp.length := loX_congr _ fun q hq _ => by rw [cI_at, ho q hq, e2]
      dsimp only
      rw [e1, e3]
      omega

/-! ### the reference's Squares -/
def rSqS (n : TNet) (q : Nat) (s : Sp) (m : Nat) : Sp :=
  if (rEq n.ts n.sp.length m).2 = false ∨ (rEq n.ts n.sp.length m).1.getD q 0 = 0 then s
  else if 0 < (rEq n.ts n.sp.length m).1.getD q 0 then bothS s (-(reK n.sp (rEq n.ts n.sp.length m).1 q n.sp.length).2, -(reK n.sp (rEq n.ts n.sp.length m).1 q n.sp.length).1)
  else bothS s (reK n.sp (rEq n.ts n.sp.length m).1 q n.sp.length)
/-- .. of the sets from 1 to m. -/
def rSqK (n : TNet) (q : Nat) : Nat → Sp
  | 0 => (los n.sp q * los n.sp q, his n.sp q * his n.sp q)
  | m + 1 => rSqS n q (rSqK n q m) (m + 1)
def rSq1 (n : TNet) (q : Nat) : Sp := rSqK n q (2 ^ n.ts.length - 1)
theorem rSqS_le (n : TNet) (q : Nat) (s : Sp) (m : Nat) : s.1 ≤ (rSqS n q s m).1 ∧ (rSqS n q s m).2 ≤ s.2 := by
  unfold rSqS
  split
  · exact ⟨Int.le_refl _, Int.le_refl _⟩
  · split <;> exact both_le _ _
theorem rSqK_le (n : TNet) (q : Nat) {m : Nat} : ∀ {k}, m ≤ k → (rSqK n q m).1 ≤ (rSqK n q k).1 ∧ (rSqK n q k).2 ≤ (rSqK n q m).2
  | 0, h => by obtain rfl : m = 0 := by omega
               exact ⟨Int.le_refl _, Int.le_refl _⟩
  | k + 1, h => by
    by_cases e : m = k + 1
    · subst e; exact ⟨Int.le_refl _, Int.le_refl _⟩
    · have ih := rSqK_le n q (m := m) (k := k) (by omega)
      have := rSqS_le n q (rSqK n q k) (k + 1)
      show (rSqK n q m).1 ≤ (rSqS n q (rSqK n q k) (k + 1)).1 ∧ (rSqS n q (rSqK n q k) (k + 1)).2 ≤ (rSqK n q m).2
      omega
/-- For a set that is a group with q at an end, the bounds of its equation. -/
theorem rSqS_is {n : TNet} (h : NOk n) {m q : Nat} (h1 : 1 ≤ m) (h2 : m < 2 ^ n.ts.length) (hq : q < n.sp.length) (s0 : Sp) :
    rSqS n q s0 m = s0 ∨ ∃ l s, Gl n.ts n.ts.length l s ∧ sumS n.ts s l q = -1 ∧ rSqS n q s0 m = bothS s0 (loX (sumS n.ts s l) (fnS (sqs n.sp)) q n.sp.length, -loX (fun p => -sumS n.ts s l p) (fnS (sqs n.sp)) q n.sp.length) := by
  unfold rSqS
  rw [req_grp h h1 h2]
  by_cases hy : (grpR n.ts (bitsK m n.ts.length) n.sp.length).2 = true
  · obtain ⟨s, g, ho⟩ := grp_gl h h1 h2 hy
    have hone := gl_ones h h1 h2 hy
    rw [reK_lo hone _ (Nat.le_refl _)]
    have hoq := ho q hq
    have e1 : loX (cI (grpR n.ts (bitsK m n.ts.length) n.sp.length).1) (fnS (sqs n.sp)) q n.sp.length = loX (sumS n.ts s (bitsK m n.ts.length)) (fnS (sqs n.sp)) q n.sp.length := loX_congr _ fun p hp _ => by rw [cI_at, ho p hp]
    have e3 : loX (fun p => -cI (grpR n.ts (bitsK m n.ts.length) n.sp.length).1 p) (fnS (sqs n.sp)) q n.sp.length = loX (fun p => -sumS n.ts s (bitsK m n.ts.length) p) (fnS (sqs n.sp)) q n.sp.length := loX_congr _ fun p hp _ => by rw [cI_at, ho p hp]
    rw [e1, e3]
    rcases hone q hq with e | e | e
    · right
      obtain ⟨g2, e2⟩ := g.neg
      refine ⟨_, _, g2, by rw [e2, ← hoq, e], ?_⟩
      rw [if_neg (by rw [hy, e]; simp), if_pos (by omega)]
      congr 1
      refine Prod.ext ?_ ?_
      · dsimp only
        rw [Int.neg_neg]
        exact loX_congr _ fun p hp _ => by rw [e2]
      · dsimp only
        congr 1
        exact loX_congr _ fun p hp _ => by rw [e2, Int.neg_neg]
    · right
      refine ⟨_, _, g, by rw [← hoq, e], ?_⟩
      rw [if_neg (by rw [hy, e]; simp), if_neg (by omega)]
    · left
      rw [if_pos (.inr e)]
  · left
    rw [if_pos (.inl (by simpa using hy))]
theorem rSqS_at {n : TNet} (h : NOk n) {q : Nat} (hq : q < n.sp.length) {l : List Int} {s : Int → Int} (g : Gl n.ts n.ts.length l s) (e : sumS n.ts s l q = -1) :
    ∃ m, 1 ≤ m ∧ m < 2 ^ n.ts.length ∧ ∀ s0, rSqS n q s0 m = bothS s0 (loX (sumS n.ts s l) (fnS (sqs n.sp)) q n.sp.length, -loX (fun p => -sumS n.ts s l p) (fnS (sqs n.sp)) q n.sp.length) := by
  obtain ⟨m, h1, h2, hy, ε, hε, ho⟩ := gl_grp h g
  refine ⟨m, h1, h2, fun s0 => ?_⟩
  unfold rSqS
  have hoq := ho q hq
  rw [e] at hoq
  rw [req_grp h h1 h2, reK_lo (gl_ones h h1 h2 hy) _ (Nat.le_refl _)]
  rcases hε with rfl | rfl
  · have e1 : loX (cI (grpR n.ts (bitsK m n.ts.length) n.sp.length).1) (fnS (sqs n.sp)) q n.sp.length = loX (sumS n.ts s l) (fnS (sqs n.sp)) q n.sp.length := loX_congr _ fun p hp _ => by rw [cI_at, ho p hp, Int.one_mul]
    have e3 : loX (fun p => -cI (grpR n.ts (bitsK m n.ts.length) n.sp.length).1 p) (fnS (sqs n.sp)) q n.sp.length = loX (fun p => -sumS n.ts s l p) (fnS (sqs n.sp)) q n.sp.length := loX_congr _ fun p hp _ => by rw [cI_at, ho p hp, Int.one_mul]
    rw [e1, e3, if_neg (by rw [hy, hoq]; simp), if_neg (by omega)]
  · have e1 : loX (cI (grpR n.ts (bitsK m n.ts.length) n.sp.length).1) (fnS (sqs n.sp)) q n.sp.length = loX (fun p => -sumS n.ts s l p) (fnS (sqs n.sp)) q n.sp.length := loX_congr _ fun p hp _ => by rw [cI_at, ho p hp]; congr 1; omega
    have e3 : loX (fun p => -cI (grpR n.ts (bitsK m n.ts.length) n.sp.length).1 p) (fnS (sqs n.sp)) q n.sp.length = loX (sumS n.ts s l) (fnS (sqs n.sp)) q n.sp.length := loX_congr _ fun p hp _ => by rw [cI_at, ho p hp]; congr 1; omega
    rw [e1, e3, if_neg (by rw [hy, hoq]; simp), if_pos (by omega), Int.neg_neg]
/-- The reference's spans of squares are those that narrowing leaves. -/
theorem rSq_is {n : TNet} (h : NOk n) (hok : narOk n.ts (sqs n.sp) = true) {q : Nat} (hq : q < n.sp.length) : rSq1 n q = (narT n.ts (sqs n.sp)).getD q (0, 0) := by
  have hf := nok_fr h
  have hS := (nok_spok h).le
  have hin : ∀ t ∈ n.ts, ∀ o ∈ cor t, 0 ≤ o ∧ o < ((sqs n.sp).length : Int) := by rw [sqs_len]; exact nok_in h
  have F := far_all hf n.ts.length (Nat.le_refl _)
  have hlen := sqs_len n.sp
  have hle := nar_le hlen hok hq
  have h0q : (0 : Int) ≤ (q : Int) := by omega
  have hqN : (q : Int) < (n.sp.length : Int) := by omega
  have htr : ∀ y, InS ((narT n.ts (sqs n.sp)).getD q (0, 0)) y ↔ ∃ x, Tr0 n.ts (fnS (sqs n.sp)) x ∧ x q = y := fun y => by
    rw [in_iff h hlen hok hq, tru_iff hin h0q (by rw [sqs_len]; exact hqN)]
  have htk : n.ts.take n.ts.length = n.ts := List.take_length
  -- both ends are reached, and no truth has a square beyond a bound
  have hbnd : ∀ k, k < 2 ^ n.ts.length → (rSqK n q k).1 ≤ ((narT n.ts (sqs n.sp)).getD q (0, 0)).1 ∧ ((narT n.ts (sqs n.sp)).getD q (0, 0)).2 ≤ (rSqK n q k).2 := by
    obtain ⟨xa, ta, ea⟩ := (htr _).1 ⟨Int.le_refl _, hle⟩
    obtain ⟨xb, tb, eb⟩ := (htr _).1 ⟨hle, Int.le_refl _⟩
    have e0 : fnS (sqs n.sp) (q : Int) = (los n.sp q * los n.sp q, his n.sp q * his n.sp q) := by rw [fnS_nat, sqs_at hq]
    intro k
    induction k with
    | zero =>
      intro _
      have a := ta.sp q
      have b := tb.sp q
      rw [e0] at a b
      show los n.sp q * los n.sp q ≤ _ ∧ _ ≤ his n.sp q * his n.sp q
      rw [← ea, ← eb]
      exact ⟨a.1, b.2⟩
    | succ k ih =>
      intro hk
      have ih := ih (by omega)
      show (rSqS n q (rSqK n q k) (k + 1)).1 ≤ _ ∧ _ ≤ (rSqS n q (rSqK n q k) (k + 1)).2
      rcases rSqS_is h (m := k + 1) (by omega) hk hq (rSqK n q k) with e | ⟨l, s, g, e1, e2⟩
      · rw [e]; exact ih
      · rw [e2]
        have a := g.lowx hf (Nat.le_refl _) (by rw [htk]; exact ta) h0q hqN
        obtain ⟨g2, e3⟩ := g.neg
        have b := g2.lowx hf (Nat.le_refl _) (by rw [htk]; exact tb) h0q hqN
        rw [e1, ea] at a
        rw [e3, e1, eb] at b
        have e4 : loX (sumS n.ts (fun j => -s j) l) (fnS (sqs n.sp)) q n.sp.length = loX (fun p => -sumS n.ts s l p) (fnS (sqs n.sp)) q n.sp.length := loX_congr _ fun p hp _ => by rw [e3]
        rw [e4] at b
        unfold bothS
        dsimp only
        omega
  have hT := hbnd (2 ^ n.ts.length - 1) (by have : 0 < 2 ^ n.ts.length := Nat.two_pow_pos _; omega)
  obtain ⟨x0, t0, _⟩ := (htr _).1 ⟨Int.le_refl _, hle⟩
  obtain ⟨x1, t1, b1⟩ := far_end F hf (Nat.le_refl _) hS (σ := 1) (.inl rfl) h0q hqN _ x0 (by rw [htk]; exact t0) (Nat.le_refl _)
  obtain ⟨x2, t2, b2⟩ := far_end F hf (Nat.le_refl _) hS (σ := -1) (.inr rfl) h0q hqN _ x0 (by rw [htk]; exact t0) (Nat.le_refl _)
  rw [htk] at t1 t2
  have i1 := (htr _).2 ⟨x1, t1, rfl⟩
  have i2 := (htr _).2 ⟨x2, t2, rfl⟩
  have e0 : fnS (sqs n.sp) (q : Int) = (los n.sp q * los n.sp q, his n.sp q * his n.sp q) := by rw [fnS_nat, sqs_at hq]
  have hup : ∀ {m}, 1 ≤ m → m < 2 ^ n.ts.length → (rSqS n q (rSqK n q (m - 1)) m).1 ≤ (rSq1 n q).1 ∧ (rSq1 n q).2 ≤ (rSqS n q (rSqK n q (m - 1)) m).2 := fun {m} h1 h2 => by
    have := rSqK_le n q (m := m) (k := 2 ^ n.ts.length - 1) (by omega)
    have e : rSqK n q m = rSqS n q (rSqK n q (m - 1)) m := by
      obtain ⟨j, rfl⟩ : ∃ j, m = j + 1 := ⟨m - 1, by omega⟩
      rfl
    rwa [e] at this
  have hz := rSqK_le n q (m := 0) (k := 2 ^ n.ts.length - 1) (by omega)
  have l1 : x1 q ≤ (rSq1 n q).1 := by
    rcases b1 with e | ⟨l, s, g, e1, e2⟩
    · rw [e0] at e
      have e' : x1 q = los n.sp q * los n.sp q := by unfold lo1 at e; rw [if_pos rfl] at e; dsimp only at e; omega
      rw [e']; exact hz.1
    · obtain ⟨m, h1, h2, hm⟩ := rSqS_at h hq g e1
      have := (hup h1 h2).1
      rw [hm] at this
      unfold bothS at this
      dsimp only at this
      omega
  have l2 : (rSq1 n q).2 ≤ x2 q := by
    rcases b2 with e | ⟨l, s, g, e1, e2⟩
    · rw [e0] at e
      have e' : x2 q = his n.sp q * his n.sp q := by unfold lo1 at e; rw [if_neg (by decide), if_pos rfl] at e; dsimp only at e; omega
      rw [e']; exact hz.2
    · obtain ⟨g2, e3⟩ := g.neg
      obtain ⟨m, h1, h2, hm⟩ := rSqS_at h hq g2 (by rw [e3, e1]; rfl)
      have := (hup h1 h2).2
      rw [hm] at this
      have e4 : loX (fun p => -sumS n.ts (fun j => -s j) l p) (fnS (sqs n.sp)) q n.sp.length = loX (sumS n.ts s l) (fnS (sqs n.sp)) q n.sp.length := loX_congr _ fun p hp _ => by rw [e3, Int.neg_neg]
      rw [e4] at this
      unfold bothS at this
      dsimp only at this
      omega
  refine Prod.ext ?_ ?_
  · have := hT.1; have := i1.1; show (rSq1 n q).1 = _; unfold rSq1 at *; omega
  · have := hT.2; have := i2.2; show (rSq1 n q).2 = _; unfold rSq1 at *; omega
end Go.Proofs.Ytlbhnicengolfaa
