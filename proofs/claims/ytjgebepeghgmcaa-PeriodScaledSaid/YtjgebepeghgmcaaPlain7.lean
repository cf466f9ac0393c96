/-
  Plain facts: all counts are just those that are possible, in order.
-/
import Derived.Test.YtjgebepeghgmcaaWatch4
namespace Go.Proofs.Ytjgebepeghgmcaa
set_option linter.unusedVariables false
set_option linter.unusedSimpArgs false

/-! ### more counts, narrower bounds -/
theorem csum_app (cs es : List Int) (i k : Nat) (hk : k ≤ cs.length) : csum (cs ++ es) i k = csum cs i k := by
  unfold csum
  by_cases hi : i ≤ cs.length
  · rw [List.drop_append_of_le_length hi, List.take_append_of_le_length (by rw [List.length_drop]; omega)]
  · rw [show k - i = 0 by omega]
    simp
theorem bel_app (ps : List (Int × Int)) (cs es : List Int) (i k : Nat) (hk : k ≤ cs.length) : bel ps (cs ++ es) (i, k) = bel ps cs (i, k) ∧ abv ps (cs ++ es) (i, k) = abv ps cs (i, k) := by
  unfold bel abv
  dsimp only
  rw [csum_app cs es i k hk]
  exact ⟨rfl, rfl⟩
theorem COk.left {l : PLog} {cs es : List Int} (h : COk l (cs ++ es)) : COk l cs :=
  ⟨by have := h.len; simp at this; omega, fun x hx => h.inb x (List.mem_append_left _ hx)⟩

theorem ends_app {l : PLog} {cs es : List Int} (hl : LOk l) (hc : COk l (cs ++ es)) :
    (lowEnd l cs).1 * (lowEnd l (cs ++ es)).2 ≤ (lowEnd l (cs ++ es)).1 * (lowEnd l cs).2 ∧ (highEnd l (cs ++ es)).1 * (highEnd l cs).2 ≤ (highEnd l cs).1 * (highEnd l (cs ++ es)).2 := by
  have L := low_is hl hc.left
  have H := high_is hl hc.left
  have L' := low_is hl hc
  have H' := high_is hl hc
  constructor
  · rcases L.is with e | ⟨i, k, hik, hk, e⟩
    · rw [e]
      have := L'.lo
      dsimp only
      omega
    · have := L'.pair i k hik (by simp; omega)
      rw [(bel_app l.ps cs es i k hk).1, ← e] at this
      exact this
  · rcases H.is with e | ⟨i, k, hik, hk, e⟩
    · rw [e]
      have := H'.hi
      dsimp only
      omega
    · have := H'.pair i k hik (by simp; omega)
      rw [(bel_app l.ps cs es i k hk).2, ← e] at this
      exact this
theorem possible_le {l : PLog} {cs : List Int} : possible l cs = true ↔ (lowEnd l cs).1 * (highEnd l cs).2 ≤ (highEnd l cs).1 * (lowEnd l cs).2 := by
  unfold possible cmpR
  rw [decide_eq_true_iff]
  omega
theorem possible_app {l : PLog} {cs es : List Int} (hl : LOk l) (hc : COk l (cs ++ es)) (h : possible l (cs ++ es) = true) : possible l cs = true := by
  rw [possible_le] at h ⊢
  obtain ⟨h1, h2⟩ := ends_app hl hc
  have L := low_is hl hc.left
  have H := high_is hl hc.left
  have L' := low_is hl hc
  have H' := high_is hl hc
  have g1 := cross_trans (a := (lowEnd l cs).1) (b := (lowEnd l cs).2) (c := (lowEnd l (cs ++ es)).1) (d := (lowEnd l (cs ++ es)).2) (e := (highEnd l (cs ++ es)).1) (f := (highEnd l (cs ++ es)).2) (by have := L.pos; omega) (by have := L'.pos; omega) (by have := H'.pos; omega) h1 h
  exact cross_trans (by have := L.pos; omega) (by have := H'.pos; omega) (by have := H.pos; omega) g1 h2

theorem csum_last (cs : List Int) (n : Int) : csum (cs ++ [n]) cs.length (cs.length + 1) = n := by
  unfold csum
  rw [List.drop_append_of_le_length (Nat.le_refl _), List.drop_length, List.nil_append, show cs.length + 1 - cs.length = 1 by omega]
  simp
/-- The next count lies between the two numbers from which, and up to which, it is looked for. -/
theorem count_range {l : PLog} {cs : List Int} {n : Int} (hl : LOk l) (hc : COk l (cs ++ [n])) (h : possible l (cs ++ [n]) = true) : firstN l cs ≤ n ∧ n ≤ lastN l cs := by
  have hn := hc.inb n (by simp)
  have hlen := hc.len
  have L := low_is hl hc.left
  have H := high_is hl hc.left
  have L' := low_is hl hc
  have H' := high_is hl hc
  have E := ends_pos hl hc.left
  obtain ⟨h1, h2⟩ := ends_app hl hc
  rw [possible_le] at h
  have pl := L'.pair cs.length (cs.length + 1) (by omega) (by simp)
  have ph := H'.pair cs.length (cs.length + 1) (by omega) (by simp)
  unfold bel at pl
  unfold abv at ph
  dsimp only at pl ph
  rw [csum_last] at pl ph
  have g1 := cross_trans (a := los l.ps (cs.length + 1) - his l.ps cs.length) (b := n) (c := (lowEnd l (cs ++ [n])).1) (d := (lowEnd l (cs ++ [n])).2) (e := (highEnd l (cs ++ [n])).1) (f := (highEnd l (cs ++ [n])).2) (by omega) (by have := L'.pos; omega) (by have := H'.pos; omega) pl h
  have g2 := cross_trans (by omega) (by have := H'.pos; omega) (by have := H.pos; omega) g1 h2
  have g3 := cross_trans (a := (lowEnd l cs).1) (b := (lowEnd l cs).2) (c := (lowEnd l (cs ++ [n])).1) (d := (lowEnd l (cs ++ [n])).2) (e := (highEnd l (cs ++ [n])).1) (f := (highEnd l (cs ++ [n])).2) (by have := L.pos; omega) (by have := L'.pos; omega) (by have := H'.pos; omega) h1 h
  have g4 := cross_trans (by have := L.pos; omega) (by have := H'.pos; omega) (by omega) g3 ph
  constructor
  · unfold firstN gapLo
    refine Int.max_le.2 ⟨hn.1, ?_⟩
    rw [Int.mul_comm (highEnd l cs).1 n] at g2
    exact Int.le_of_lt_add_one ((Int.ediv_lt_iff_lt_mul (by omega)).2 (by
      have : (n + 1) * (highEnd l cs).1 = n * (highEnd l cs).1 + (highEnd l cs).1 := by rw [Int.add_mul, Int.one_mul]
      omega))
  · unfold lastN gapHi
    rw [Int.mul_comm (lowEnd l cs).1 n] at g4
    exact (Int.le_ediv_iff_mul_le (by omega)).2 g4

/-! ### what is among all counts -/
theorem mem_nsFrom {n last x : Int} : x ∈ nsFrom n last ↔ n ≤ x ∧ x ≤ last := by
  unfold nsFrom
  simp only [List.mem_map, List.mem_range]
  constructor
  · rintro ⟨j, hj, rfl⟩
    omega
  · rintro ⟨h1, h2⟩
    exact ⟨(x - n).toNat, by omega, by omega⟩

theorem mem_cntAll {l : PLog} (hl : LOk l) : ∀ (k : Nat) (cs c : List Int), COk l cs → cs.length + 1 + k = l.ps.length → possible l cs = true →
    (c ∈ cntAll k l cs ↔ ∃ ds, ds.length = k ∧ c = cs ++ ds ∧ COk l c ∧ possible l c = true)
  | 0, cs, c, hcs, hlen, hp => by
    unfold cntAll
    rw [List.mem_singleton]
    constructor
    · rintro rfl
      exact ⟨[], rfl, by simp, hcs, hp⟩
    · rintro ⟨ds, hd, rfl, _⟩
      obtain rfl := List.length_eq_zero_iff.1 hd
      simp
  | k + 1, cs, c, hcs, hlen, hp => by
    unfold cntAll
    rw [List.mem_flatMap]
    constructor
    · rintro ⟨n, hn, hm⟩
      rw [mem_nsFrom] at hn
      split at hm
      · rename_i hpn
        have hcn : COk l (cs ++ [n]) := by
          refine ⟨by simp; omega, fun x hx => ?_⟩
          rcases List.mem_append.1 hx with h | h
          · exact hcs.inb x h
          · obtain rfl := List.mem_singleton.1 h
            have e := ends_pos hl hcs
            have g := low_ge hl hcs
            have h1 : 1 ≤ x := Int.le_trans (by unfold firstN; omega) hn.1
            have hg := hl.inb (cs.length + 1) (by omega)
            have hg2 := hl.inb cs.length (by omega)
            refine ⟨h1, Int.le_trans hn.2 ?_⟩
            unfold lastN gapHi
            have hlo : los l.ps cs.length ≤ his l.ps (cs.length + 1) := by have := hl.inc cs.length (by omega); omega
            exact Int.le_trans (div_le_of_le (by omega) (by omega) g (by omega)) (by omega)
        obtain ⟨ds, h1, h2, h3, h4⟩ := (mem_cntAll hl k (cs ++ [n]) c hcn (by simp; omega) hpn).1 hm
        exact ⟨n :: ds, by simp [h1], by rw [h2]; simp, h3, h4⟩
      · cases hm
    · rintro ⟨ds, hd, rfl, h3, h4⟩
      match ds, hd with
      | n :: ds, hd =>
        have e : cs ++ n :: ds = (cs ++ [n]) ++ ds := by simp
        rw [e] at h3 h4 ⊢
        have hcn := h3.left
        have hpn := possible_app hl h3 h4
        refine ⟨n, mem_nsFrom.2 (count_range hl hcn hpn), ?_⟩
        rw [if_pos hpn]
        exact (mem_cntAll hl k (cs ++ [n]) _ hcn (by simp; omega) hpn).2 ⟨ds, by simpa using hd, rfl, h3, h4⟩

theorem mem_allC {l : PLog} (hl : LOk l) (c : List Int) : c ∈ allC l ↔ c.length + 1 = l.ps.length ∧ COk l c ∧ possible l c = true := by
  have h2 := hl.len2
  unfold allC
  rw [mem_cntAll hl (l.ps.length - 1) [] c ⟨by simp; omega, fun x hx => (by cases hx)⟩ (by simp; omega) (possible_nil hl)]
  constructor
  · rintro ⟨ds, h1, rfl, h3, h4⟩
    exact ⟨by omega, h3, h4⟩
  · rintro ⟨h1, h3, h4⟩
    exact ⟨c, by omega, by simp, h3, h4⟩

/-! ### in order -/
def lexlt : List Int → List Int → Prop
  | [], _ => False
  | _ :: _, [] => False
  | a :: r, b :: t => a < b ∨ a = b ∧ lexlt r t
theorem lexlt_irrefl : ∀ a, ¬ lexlt a a
  | [] => fun h => h
  | a :: r => fun h => by
    unfold lexlt at h
    rcases h with h | ⟨_, h⟩
    · omega
    · exact lexlt_irrefl r h
theorem lexlt_trans : ∀ a b c, lexlt a b → lexlt b c → lexlt a c
  | [], _, _, h, _ => h.elim
  | a :: r, [], _, h, _ => h.elim
  | a :: r, b :: t, [], _, h => h.elim
  | a :: r, b :: t, c :: u, h1, h2 => by
    unfold lexlt at h1 h2 ⊢
    rcases h1 with h1 | ⟨rfl, h1⟩
    · rcases h2 with h2 | ⟨rfl, h2⟩
      · exact .inl (by omega)
      · exact .inl h1
    · rcases h2 with h2 | ⟨rfl, h2⟩
      · exact .inl h2
      · exact .inr ⟨rfl, lexlt_trans r t u h1 h2⟩
theorem lexlt_app : ∀ cs a b, lexlt a b → lexlt (cs ++ a) (cs ++ b)
  | [], _, _, h => h
  | c :: cs, a, b, h => Or.inr ⟨rfl, lexlt_app cs a b h⟩

theorem pair_flat {α : Type} {r : List Int → List Int → Prop} {f : α → List (List Int)} : ∀ {xs : List α}, (∀ x ∈ xs, (f x).Pairwise r) → xs.Pairwise (fun x y => ∀ a ∈ f x, ∀ b ∈ f y, r a b) → (xs.flatMap f).Pairwise r
  | [], _, _ => List.Pairwise.nil
  | x :: xs, h1, h2 => by
    rw [List.flatMap_cons, List.pairwise_append]
    obtain ⟨h3, h4⟩ := List.pairwise_cons.1 h2
    refine ⟨h1 x List.mem_cons_self, pair_flat (fun y hy => h1 y (List.mem_cons_of_mem _ hy)) h4, fun a ha b hb => ?_⟩
    obtain ⟨y, hy, hb⟩ := List.mem_flatMap.1 hb
    exact h3 y hy a ha b hb
theorem nsFrom_sorted (n last : Int) : (nsFrom n last).Pairwise (· < ·) := by
  unfold nsFrom
  rw [List.pairwise_map]
  exact List.Pairwise.imp (fun h => by omega) List.pairwise_lt_range

theorem cntAll_begins : ∀ (k : Nat) (l : PLog) (cs c : List Int), c ∈ cntAll k l cs → ∃ ds, c = cs ++ ds
  | 0, l, cs, c, h => ⟨[], by unfold cntAll at h; rw [List.mem_singleton] at h; simp [h]⟩
  | k + 1, l, cs, c, h => by
    unfold cntAll at h
    obtain ⟨n, _, hm⟩ := List.mem_flatMap.1 h
    split at hm
    · obtain ⟨ds, rfl⟩ := cntAll_begins k l _ _ hm
      exact ⟨n :: ds, by simp⟩
    · cases hm
theorem cntAll_sorted : ∀ (k : Nat) (l : PLog) (cs : List Int), (cntAll k l cs).Pairwise lexlt
  | 0, l, cs => List.pairwise_singleton _ _
  | k + 1, l, cs => by
    unfold cntAll
    refine pair_flat (fun n _ => ?_) ((nsFrom_sorted _ _).imp fun {n m} hnm a ha b hb => ?_)
    · split
      · exact cntAll_sorted k l _
      · exact List.Pairwise.nil
    · split at ha
      · split at hb
        · obtain ⟨ds, rfl⟩ := cntAll_begins _ _ _ _ ha
          obtain ⟨es, rfl⟩ := cntAll_begins _ _ _ _ hb
          rw [List.append_assoc, List.append_assoc]
          exact lexlt_app cs _ _ (Or.inl hnm)
        · cases hb
      · cases ha
theorem allC_sorted (l : PLog) : (allC l).Pairwise lexlt := cntAll_sorted _ _ _

/-- Two ordered lists of the same elements are equal. -/
theorem sorted_ext {α : Type} {r : α → α → Prop} (hi : ∀ a, ¬ r a a) (ht : ∀ a b c, r a b → r b c → r a c) : ∀ (xs ys : List α), xs.Pairwise r → ys.Pairwise r → (∀ a, a ∈ xs ↔ a ∈ ys) → xs = ys
  | [], [], _, _, _ => rfl
  | [], y :: ys, _, _, h => absurd ((h y).2 List.mem_cons_self) (by simp)
  | x :: xs, [], _, _, h => absurd ((h x).1 List.mem_cons_self) (by simp)
  | x :: xs, y :: ys, h1, h2, h => by
    obtain ⟨a1, a2⟩ := List.pairwise_cons.1 h1
    obtain ⟨b1, b2⟩ := List.pairwise_cons.1 h2
    have exy : x = y := by
      rcases List.mem_cons.1 ((h x).1 List.mem_cons_self) with e | e
      · exact e
      · rcases List.mem_cons.1 ((h y).2 List.mem_cons_self) with e' | e'
        · exact e'.symm
        · exact absurd (ht _ _ _ (b1 x e) (a1 y e')) (hi y)
    subst exy
    refine List.cons_eq_cons.2 ⟨rfl, sorted_ext hi ht xs ys a2 b2 fun a => ?_⟩
    constructor
    · intro ha
      rcases List.mem_cons.1 ((h a).1 (List.mem_cons_of_mem _ ha)) with e | e
      · subst e
        exact absurd (a1 a ha) (hi a)
      · exact e
    · intro ha
      rcases List.mem_cons.1 ((h a).2 (List.mem_cons_of_mem _ ha)) with e | e
      · subst e
        exact absurd (b1 a ha) (hi a)
      · exact e

end Go.Proofs.Ytjgebepeghgmcaa
