/-
  Skies: no truth, then a clash, which Verify accepts.
-/
import Derived.Test.YtlbhnicengolfaaEithF
namespace Go.Proofs.Ytlbhnicengolfaa
open Go.RowKit
set_option linter.unusedVariables false
set_option linter.unusedSimpArgs false

theorem skyTs_inF {lk : List (Int × Int)} (hlk : ∀ i, 0 ≤ (lk.getD i (0, 0)).1) : ∀ k, ∀ t ∈ skyTs lk k, ∀ o ∈ cor t, 0 ≤ o ∧ o < 1 + 2 * (k : Int)
  | 0, t, ht, _, _ => by cases ht
  | k + 1, t, ht, o, ho => by
    unfold skyTs at ht
    rcases List.mem_append.1 ht with ht | ht
    · have := skyTs_inF hlk k t ht o ho
      omega
    · rw [List.mem_singleton] at ht
      subst ht
      have := (skyT_in k (lk.getD k (0, 0)) (hlk k)).1 o ho
      omega
theorem skyT_form (k : Nat) (l : Int × Int) (h : 0 ≤ l.1) :
    (skyT k l = (1 + 2 * (k : Int), 2 + 2 * (k : Int), ((oldQ (skyT k l) : Nat) : Int)) ∧ (∀ c, sgA (skyT k l) c = c) ∧ oldQ (skyT k l) < 1 + 2 * k) ∨
    (skyT k l = (((oldQ (skyT k l) : Nat) : Int), 1 + 2 * (k : Int), 2 + 2 * (k : Int)) ∧ (∀ c, sgA (skyT k l) c = -c) ∧ oldQ (skyT k l) < 1 + 2 * k) := by
  have e0 := Int.emod_nonneg l.1 (b := 1 + 2 * (k : Int)) (by omega)
  have e1 := Int.emod_lt_of_pos l.1 (b := 1 + 2 * (k : Int)) (by omega)
  unfold skyT
  split
  · left
    have hlt : l.1 % (1 + 2 * (k : Int)) < 1 + 2 * (k : Int) := e1
    unfold oldQ sgA
    dsimp only
    rw [if_pos hlt, Int.toNat_of_nonneg e0]
    exact ⟨by rw [show 1 + 2 * (k : Int) + 1 = 2 + 2 * (k : Int) by omega], fun c => if_pos hlt, by omega⟩
  · right
    have hlt : ¬ (1 + 2 * (k : Int) + 1 < l.1 % (1 + 2 * (k : Int))) := by omega
    unfold oldQ sgA
    dsimp only
    rw [if_neg hlt, Int.toNat_of_nonneg e0]
    exact ⟨by rw [show 1 + 2 * (k : Int) + 1 = 2 + 2 * (k : Int) by omega], fun c => if_neg hlt, by omega⟩
def ext2 (x : Int → Int) (k : Nat) (a b : Int) : Int → Int := fun q => if q = 1 + 2 * (k : Int) then a else if q = 2 + 2 * (k : Int) then b else x q
theorem hl_congr {x y : Int → Int} {t : Tri} (h : ∀ o ∈ cor t, x o = y o) (hx : Hl x t) : Hl y t := by
  unfold Hl at *
  rw [← h t.1 (by simp [cor]), ← h t.2.1 (by simp [cor]), ← h t.2.2 (by simp [cor])]
  exact hx
theorem farkas {lk : List (Int × Int)} (hlk : ∀ i, 0 ≤ (lk.getD i (0, 0)).1) : ∀ k, k ≤ 3 → ∀ ls : List Sp, ls.length = 1 + 2 * k → (∀ i, i < 1 + 2 * k → (ls.getD i (0, 0)).1 ≤ (ls.getD i (0, 0)).2) → NB lk k ls → ∃ x, Tru (skyTs lk k) ls x
  | 0, _, ls, hl, hne, _ => ⟨fun q => (spA ls q).1, fun q h0 h1 => by
      have := hne q.toNat (by omega)
      exact ⟨Int.le_refl _, this⟩, fun t ht => by cases ht⟩
  | k + 1, hk, ls, hl, hne, hNB => by
    have hl' : ls.length = 3 + 2 * k := by omega
    have hform := skyT_form k (lk.getD k (0, 0)) (hlk k)
    have ho : oldQ (skyT k (lk.getD k (0, 0))) < 1 + 2 * k := by rcases hform with h | h <;> exact h.2.2
    obtain ⟨hne1, hNB1⟩ := fstep hk hl' ho (fun i hi => hne i (by omega)) hNB
    have hlt : (ls.take (1 + 2 * k)).length = 1 + 2 * k := by rw [List.length_take]; omega
    have hll : (ls1 (skyT k (lk.getD k (0, 0))) k ls).length = 1 + 2 * k := by unfold ls1; rw [List.length_set]; exact hlt
    obtain ⟨x, hx⟩ := farkas hlk k (by omega) _ hll hne1 hNB1
    have eg : ∀ i, i < 1 + 2 * k → (ls1 (skyT k (lk.getD k (0, 0))) k ls).getD i (0, 0) = if i = oldQ (skyT k (lk.getD k (0, 0))) then bothS (ls.getD (oldQ (skyT k (lk.getD k (0, 0)))) (0, 0)) (spJ (skyT k (lk.getD k (0, 0))) (ls.getD (1 + 2 * k) (0, 0)) (ls.getD (2 + 2 * k) (0, 0))) else ls.getD i (0, 0) := fun i hi => by
      unfold ls1
      rw [set_getD _ _ _ _ _ (by rw [hlt]; exact ho)]
      split
      · rfl
      · rw [List.getD_eq_getElem?_getD, List.getElem?_take_of_lt hi, ← List.getD_eq_getElem?_getD]
    have hin : ∀ i : Nat, i < 1 + 2 * k → InS ((ls1 (skyT k (lk.getD k (0, 0))) k ls).getD i (0, 0)) (x i) := fun i hi => by
      have := hx.sp (i : Int) (by omega) (by rw [hll]; omega)
      rwa [spA_nat] at this
    have hts := skyTs_inF hlk k
    have hA := hne (1 + 2 * k) (by omega)
    have hB := hne (2 + 2 * k) (by omega)
    generalize ht : skyT k (lk.getD k (0, 0)) = t at *
    have hO := hin (oldQ t) ho
    rw [eg _ ho, if_pos rfl] at hO
    have hrest : ∀ i : Nat, i < 1 + 2 * k → InS (ls.getD i (0, 0)) (x i) := fun i hi => by
      have := hin i hi
      rw [eg i hi] at this
      split at this
      · rename_i e
        subst e
        unfold InS bothS at *
        dsimp only at this
        omega
      · exact this
    have done : ∀ a b : Int, InS (ls.getD (1 + 2 * k) (0, 0)) a → InS (ls.getD (2 + 2 * k) (0, 0)) b → Hl (ext2 x k a b) t → ∃ x, Tru (skyTs lk (k + 1)) ls x := fun a b ha hb hh => by
      refine ⟨ext2 x k a b, fun q h0 h1 => ?_, fun t' ht' => ?_⟩
      · obtain ⟨i, rfl⟩ : ∃ i : Nat, q = (i : Int) := ⟨q.toNat, by omega⟩
        rw [spA_nat]
        unfold ext2
        by_cases e1 : i = 1 + 2 * k
        · subst e1; rw [if_pos (by omega)]; exact ha
        · by_cases e2 : i = 2 + 2 * k
          · subst e2; rw [if_neg (by omega), if_pos (by omega)]; exact hb
          · rw [if_neg (by omega), if_neg (by omega)]; exact hrest i (by omega)
      · unfold skyTs at ht'
        rcases List.mem_append.1 ht' with ht' | ht'
        · refine hl_congr (fun o ho' => ?_) (hx.tr t' ht')
          have := hts t' ht' o ho'
          unfold ext2
          rw [if_neg (by omega), if_neg (by omega)]
        · rw [List.mem_singleton, ht] at ht'
          subst ht'
          exact hh
    have oc := ho
    generalize hq : oldQ t = q at *
    generalize ls.getD (1 + 2 * k) (0, 0) = A at *
    generalize ls.getD (2 + 2 * k) (0, 0) = B at *
    generalize ls.getD q (0, 0) = I at *
    unfold InS bothS spJ at hO
    dsimp only at hO
    rcases hform with ⟨e, hs, _⟩ | ⟨e, hs, _⟩
    · rw [hs] at hO
      have g1 : conS 1 A = A := rfl
      rw [g1] at hO
      have eo : (if ((q : Nat) : Int) = 1 + 2 * (k : Int) then (max A.1 (x q - B.2)) else if ((q : Nat) : Int) = 2 + 2 * (k : Int) then (x q - max A.1 (x q - B.2)) else x q) = x q := by rw [if_neg (by omega), if_neg (by omega)]
      refine done (max A.1 (x q - B.2)) (x q - max A.1 (x q - B.2)) ?_ ?_ ?_
      · unfold InS; omega
      · unfold InS; omega
      · unfold Hl ext2
        rw [e]
        dsimp only
        rw [if_pos rfl, if_neg (by omega), if_pos rfl, eo]
        omega
    · rw [hs] at hO
      have g1 : conS (-1) A = (-A.2, -A.1) := rfl
      rw [g1] at hO
      dsimp only at hO
      have eo : (if ((q : Nat) : Int) = 1 + 2 * (k : Int) then (max A.1 (B.1 - x q)) else if ((q : Nat) : Int) = 2 + 2 * (k : Int) then (x q + max A.1 (B.1 - x q)) else x q) = x q := by rw [if_neg (by omega), if_neg (by omega)]
      refine done (max A.1 (B.1 - x q)) (x q + max A.1 (B.1 - x q)) ?_ ?_ ?_
      · unfold InS; omega
      · unfold InS; omega
      · unfold Hl ext2
        rw [e]
        dsimp only
        rw [eo, if_pos rfl, if_neg (by omega), if_pos rfl]

theorem ordOk_bitsF : ∀ t : Fin 4, ∀ m : Fin 8, ordOk ((t : Nat) : Int) (-1) (bitsK m t) = 0 := by decide +kernel
theorem mem_grpAll {ts : List Tri} {sn m : Nat} (h1 : 1 ≤ m) (hg : (grpR ts (bitsK m ts.length) sn).2 = true) : ∀ {k}, m ≤ k → (bitsK m ts.length, (grpR ts (bitsK m ts.length) sn).1) ∈ grpUp ts sn k
  | 0, h => by omega
  | k + 1, h => by
    unfold grpUp
    rcases Nat.lt_or_ge m (k + 1) with h | h'
    · exact List.mem_append_left _ (mem_grpAll h1 hg (by omega))
    · obtain rfl : m = k + 1 := by omega
      refine List.mem_append_right _ ?_
      unfold grpOne
      rw [if_pos hg]
      exact List.mem_singleton.2 rfl
/-- A net of a sky's shape without a truth has a clash, which is accepted. -/
structure ClOk (n : TNet) (l : List Int) : Prop where
  cla : claR n = (l, 0)
  len : l.length ≠ 0
  small : l.length ≤ 3
  ver : verR n l = 0
  nz : NzOk n l
theorem sky_clash (s : TSky) (hs : SkyOk s) {n : TNet} (hok : NOk n) (hl : n.sp.length = 1 + 2 * skyK s) (ht : n.ts = (skyNet s).ts) (hno : ¬ ∃ x, Tru n.ts (sqs n.sp) x) : ∃ l, ClOk n l := by
  have hk : skyK s ≤ 3 := by unfold skyK; omega
  have htl : n.ts.length = skyK s := by rw [ht]; exact skyTs_len _ _
  have hck := check_of hok
  have hex : ∃ m, 1 ≤ m ∧ m < 2 ^ skyK s ∧ (grpR n.ts (bitsK m (skyK s)) n.sp.length).2 = true ∧ brkR n (grpR n.ts (bitsK m (skyK s)) n.sp.length).1 = true := by
    refine Classical.byContradiction fun hn => hno ?_
    rw [ht]
    refine farkas (fun i => (hs.lk i).1) (skyK s) hk (sqs n.sp) (by rw [sqs_len, hl]) (fun i hi => ?_) fun m h1 h2 hg => ?_
    · have hsp := hok.sp i (by omega)
      have e : (sqs n.sp).getD i (0, 0) = (los n.sp i * los n.sp i, his n.sp i * his n.sp i) := by
        have := spA_sqs (sp := n.sp) (q := (i : Int)) (by omega) (by omega)
        rwa [spA_nat, Int.toNat_natCast] at this
      rw [e]
      exact sq_mono hsp.1 hsp.2.1
    · have hg' : (grpR n.ts (bitsK m (skyK s)) n.sp.length).2 = true := by rw [ht, hl]; exact hg
      have hb : brkR n (grpR n.ts (bitsK m (skyK s)) n.sp.length).1 = false := by
        cases hb : brkR n (grpR n.ts (bitsK m (skyK s)) n.sp.length).1 with
        | false => rfl
        | true => exact absurd ⟨m, h1, h2, hg', hb⟩ hn
      unfold brkR at hb
      rw [brkL_sum, Bool.or_eq_false_iff] at hb
      have b1 := of_decide_eq_false hb.1
      have b2 := of_decide_eq_false hb.2
      dsimp only at b1 b2
      rw [ht, hl] at b1 b2
      unfold Zin
      exact ⟨Int.not_lt.1 b1, Int.not_lt.1 b2⟩
  obtain ⟨m, h1, h2, hg, hb⟩ := hex
  have hmem : (bitsK m (skyK s), (grpR n.ts (bitsK m (skyK s)) n.sp.length).1) ∈ grpAll n := by
    have := mem_grpAll (ts := n.ts) (sn := n.sp.length) (m := m) (k := 2 ^ n.ts.length - 1) h1 (by rw [htl]; exact hg) (by rw [htl]; omega)
    rw [htl] at this
    unfold grpAll
    rw [htl]
    exact this
  have hsome : ((grpAll n).find? (fun x => brkR n x.2)).isSome := by
    rw [List.find?_isSome]
    exact ⟨_, hmem, hb⟩
  obtain ⟨y, hy⟩ := Option.isSome_iff_exists.1 hsome
  have hyb : brkR n y.2 = true := by simpa using List.find?_some hy
  obtain ⟨m', g1, g2, g3, rfl⟩ := mem_grpUp (List.mem_of_find?_eq_some hy)
  rw [htl] at g2 g3 hyb hy
  have hlen := sky_set s g1 g2
  have hord : ordOk n.ts.length (-1) (bitsK m' (skyK s)) = 0 := by
    rw [bitsK_mod hk, htl]
    exact ordOk_bitsF ⟨skyK s, by omega⟩ ⟨m' % 8, by omega⟩
  have heq : eqR n (bitsK m' (skyK s)) = ((grpR n.ts (bitsK m' (skyK s)) n.sp.length).1, 0) := by
    unfold eqR
    rw [if_neg (by rw [hck]; simp), if_neg hlen, if_neg (by rw [hord]; simp), if_pos g3]
  refine ⟨bitsK m' (skyK s), ?_, hlen, by have := bitsK_len m' (skyK s); omega, ?_, fun _ _ _ _ => ?_⟩
  · unfold claR
    rw [if_neg (by rw [hck]; simp), hy]
  · unfold verR
    rw [heq, if_neg (by simp), if_neg (by dsimp only; rw [hyb]; simp)]
  · rw [ht, hl] at *
    rcases sky_grp s hlen with ⟨_, h⟩ | ⟨_, _, _, h, _⟩
    · rw [h] at g3; cases g3
    · exact h

end Go.Proofs.Ytlbhnicengolfaa
