/-
  Suspects of a sky in which one quantity is read in error. A copy of a net: 'total.Net{Triangles: n.Triangles, Spans: append([]api.Span{}, n.Spans...)}', a drawn region.
-/
import Derived.Test.YtlbhnicengolfaaSkyA
/-! ## SusP: Suspects of a sky in which one quantity is read in error. -/
namespace Go.Proofs.Ytlbhnicengolfaa
open Go.RowKit
set_option linter.unusedVariables false
set_option linter.unusedSimpArgs false

theorem sqs_set (sp : List Sp) (k : Nat) (v : Sp) : sqs (sp.set k v) = (sqs sp).set k (sqS v) := by unfold sqs; rw [List.map_set]
theorem los_set {sp : List Sp} {k : Nat} (hk : k < sp.length) (v : Sp) (i : Nat) : los (sp.set k v) i = (if i = k then v.1 else los sp i) ∧ his (sp.set k v) i = (if i = k then v.2 else his sp i) := by
  unfold los his
  rw [List.getD_eq_getElem?_getD, List.getElem?_set]
  by_cases h : i = k
  · subst h
    rw [if_pos rfl, if_pos rfl, if_pos rfl, if_pos hk]; exact ⟨rfl, rfl⟩
  · rw [if_neg (fun e => h e.symm), if_neg h, if_neg h, ← List.getD_eq_getElem?_getD]; exact ⟨rfl, rfl⟩
/-- A net with the span of one quantity replaced. -/
def withS (n : TNet) (k : Nat) (v : Sp) : TNet := ⟨n.sp.set k v, n.ts⟩
theorem withS_ok {n : TNet} (h : NOk n) {k : Nat} (hk : k < n.sp.length) {v : Sp} (h0 : 0 ≤ v.1) (h1 : v.1 ≤ v.2) (h2 : v.2 ≤ 10000) : NOk (withS n k v) := by
  have hl : (n.sp.set k v).length = n.sp.length := List.length_set
  refine ⟨by show 1 ≤ (n.sp.set k v).length; rw [hl]; exact h.l1, by show (n.sp.set k v).length ≤ 11; rw [hl]; exact h.l2, h.l3, fun i hi => ?_, fun i hi => ?_⟩
  · have hi' : i < n.sp.length := by have : i < (n.sp.set k v).length := hi; omega
    obtain ⟨e1, e2⟩ := los_set hk v i
    have := h.sp i hi'
    show 0 ≤ los (n.sp.set k v) i ∧ los (n.sp.set k v) i ≤ his (n.sp.set k v) i ∧ his (n.sp.set k v) i ≤ 10000
    rw [e1, e2]
    split <;> omega
  · show chk1 (n.sp.set k v).length (n.ts.take i) (tri n.ts i) = 0
    rw [hl]
    exact h.tr i hi
theorem withS_in {n : TNet} (h : NOk n) (k : Nat) (v : Sp) : ∀ t ∈ n.ts, ∀ o ∈ cor t, 0 ≤ o ∧ o < (((sqs n.sp).set k v).length : Int) := by rw [List.length_set, sqs_len]; exact nok_in h
theorem tru_with {ts : List Tri} {ls : List Sp} {x : Int → Int} (h : Tru ts ls x) {k : Nat} (hk : k < ls.length) {v : Sp} (hv : InS v (x k)) : Tru ts (ls.set k v) x :=
  ⟨fun q h0 hq => by
    rw [List.length_set] at hq
    rw [spA_setN hk _ h0]
    split
    · rename_i e; subst e; exact hv
    · exact h.sp q h0 hq, h.tr⟩

/-- All lengths are small. -/
def Small (n : TNet) : Prop := ∀ i, i < n.sp.length → his n.sp i ≤ 1010
theorem small_sq {n : TNet} (h : NOk n) (hs : Small n) {q : Int} (h0 : 0 ≤ q) (hq : q < n.sp.length) : 0 ≤ (spA (sqs n.sp) q).1 ∧ (spA (sqs n.sp) q).2 ≤ 1020100 := by
  rw [spA_sqs h0 hq]
  have hi : q.toNat < n.sp.length := by omega
  have a := h.sp _ hi
  have b := hs _ hi
  have c := sq_small a.1 (by omega)
  have d := sq_mono (a := his n.sp q.toNat) (b := 1010) (by omega) b
  exact ⟨c.1, by dsimp only; omega⟩
/-- What a suspect can be is not too great. -/
theorem sus_ok {n : TNet} (h : NOk n) (hs : Small n) {q : Nat} (hq : q < n.sp.length) (hf : freeOk n q = true) : (sqR (withS n q (0, 10000))).2 = 0 := by
  have hfr := nok_frst h
  have hl : ((sqs n.sp).set q (0, 1125899906842624)).length = n.sp.length := by rw [List.length_set, sqs_len]
  have hne := ne_of_ok (ls := narT n.ts ((sqs n.sp).set q (0, 1125899906842624))) (by unfold freeOk narOk at hf; simpa using hf)
  obtain ⟨x, _, hx⟩ := nar_truth hfr (withS_in h q (0, 1125899906842624)) hf (q := (q : Int)) (y := (spA (narT n.ts ((sqs n.sp).set q (0, 1125899906842624))) q).1) (by omega) (by omega) (by
    have := hne (q : Int)
    unfold fnS at this
    rw [if_pos (by omega)] at this
    exact ⟨Int.le_refl _, this⟩)
  have hother : ∀ p : Int, 0 ≤ p → p < n.sp.length → p ≠ q → 0 ≤ x p ∧ x p ≤ 1020100 := fun p h0 hp hne => by
    have h1 := hx.sp p h0 (by omega)
    rw [spA_setN (by rw [sqs_len]; exact hq) _ h0, if_neg hne] at h1
    have h2 := small_sq h hs h0 hp
    unfold InS at h1
    omega
  have hq0 : 0 ≤ x q := by
    have h1 := hx.sp (q : Int) (by omega) (by omega)
    rw [spA_setN (by rw [sqs_len]; exact hq) _ (by omega), if_pos rfl] at h1
    exact h1.1
  have key : ∃ x', Tru n.ts ((sqs n.sp).set q (0, 100000000)) x' := by
    by_cases hm : ∃ t ∈ n.ts, (q : Int) ∈ cor t
    · obtain ⟨t, ht, hqt⟩ := hm
      have hin := nok_in h t ht
      have hhl := hx.tr t ht
      obtain ⟨d1, d2, d3⟩ := frst_ne hfr t ht
      have ha := hin t.1 (by simp [cor])
      have hb := hin t.2.1 (by simp [cor])
      have hw := hin t.2.2 (by simp [cor])
      have hbig : x q ≤ 100000000 := by
        unfold Hl at hhl
        simp only [cor, List.mem_cons, List.not_mem_nil, or_false] at hqt
        rcases hqt with e | e | e
        · have h1 := hother _ hb.1 hb.2 (by omega)
          have h2 := hother _ hw.1 hw.2 (by omega)
          rw [← e] at hhl
          omega
        · have h1 := hother _ ha.1 ha.2 (by omega)
          have h2 := hother _ hw.1 hw.2 (by omega)
          rw [← e] at hhl
          omega
        · have h1 := hother _ ha.1 ha.2 (by omega)
          have h2 := hother _ hb.1 hb.2 (by omega)
          rw [← e] at hhl
          omega
      refine ⟨x, fun p h0 hp => ?_, hx.tr⟩
      rw [List.length_set] at hp
      have h1 := hx.sp p h0 (by rw [List.length_set]; exact hp)
      rw [spA_setN (by rw [sqs_len]; exact hq) _ h0] at h1 ⊢
      split
      · rename_i e; subst e; exact ⟨hq0, hbig⟩
      · rename_i e; rwa [if_neg e] at h1
    · refine ⟨fun p => if p = (q : Int) then 0 else x p, fun p h0 hp => ?_, fun t ht => ?_⟩
      · rw [List.length_set] at hp
        have h1 := hx.sp p h0 (by rw [List.length_set]; exact hp)
        rw [spA_setN (by rw [sqs_len]; exact hq) _ h0] at h1 ⊢
        split
        · exact ⟨Int.le_refl _, by decide⟩
        · rename_i e; rwa [if_neg e] at h1
      · have hn : ∀ o ∈ cor t, o ≠ (q : Int) := fun o ho e => hm ⟨t, ht, e ▸ ho⟩
        unfold Hl
        dsimp only
        rw [if_neg (hn _ (by simp [cor])), if_neg (hn _ (by simp [cor])), if_neg (hn _ (by simp [cor]))]
        exact hx.tr t ht
  have hok := withS_ok h hq (v := (0, 10000)) (by decide) (by decide) (by decide)
  obtain ⟨x', hx'⟩ := key
  have e : sqs (withS n q (0, 10000)).sp = (sqs n.sp).set q (0, 100000000) := sqs_set _ _ _
  unfold sqR
  rw [if_neg (by rw [check_of hok]; simp), e, show (withS n q (0, 10000)).ts = n.ts from rfl, (truth_nar hfr (withS_in h q (0, 100000000)) hx').1]
  rfl
/-- The quantity that is in error is suspect. -/
theorem sus_mem {n : TNet} (h : NOk n) {x : Int → Int} (hx : Tru n.ts (sqs n.sp) x) {k : Nat} (hk : k < n.sp.length) (h0 : 0 ≤ x k) (h1 : x k ≤ 1125899906842624) (v : Sp) : freeOk (withS n k v) k = true := by
  unfold freeOk
  have e : sqs (withS n k v).sp = (sqs n.sp).set k (sqS v) := sqs_set _ _ _
  rw [e, List.set_set]
  exact (truth_nar (nok_frst h) (withS_in h k _) (tru_with hx (by rw [sqs_len]; exact hk) ⟨h0, h1⟩)).1
theorem sus_sorted (n : TNet) (N : Nat) : ((List.range N).filter (freeOk n)).Pairwise (· < ·) := List.Pairwise.filter _ List.pairwise_lt_range
theorem skyTru_small {s : TSky} {lg : Nat → Int} (hs : SkyOk s) (hl : LegOk lg) : Small (skyTru s lg) := fun i hi => by
  have hx := skyX_range s hl
  have hi' : i < 1 + 2 * skyK s := by simpa [skyTru] using hi
  obtain ⟨_, e2⟩ := map_los (fun q => truS s q ((skyX s lg).getD q 0)) hi'
  obtain ⟨a, b, c, d, e, f⟩ := rt_small (hx i).1 (hx i).2
  rw [show his (skyTru s lg).sp i = _ from e2]
  unfold truS
  dsimp only
  omega
theorem withS_small {n : TNet} (h : Small n) {k : Nat} (hk : k < n.sp.length) {v : Sp} (hv : v.2 ≤ 1010) : Small (withS n k v) := fun i hi => by
  have hi' : i < n.sp.length := by have : i < (n.sp.set k v).length := hi; rwa [List.length_set] at this
  show his (n.sp.set k v) i ≤ 1010
  rw [(los_set hk v i).2]
  have := h i hi'
  split <;> omega

end Go.Proofs.Ytlbhnicengolfaa

/-! ## NetCopy: A copy of a net: 'total.Net{Triangles: n.Triangles, Spans: append([]api.Span{}, n.Spans...)}', a drawn region. -/
namespace Go.Proofs.Ytlbhnicengolfaa
open Go.RowKit
set_option linter.unusedVariables false
set_option linter.unusedSimpArgs false

theorem below_of_grown {w w' : World} (h : w.grownBy w' none) : Below w.heap.size w w' := ⟨h.os, h.tape, h.output, h.size, fun k hk => h.block k hk (by simp)⟩
def cpNil (v : Value) : Prop := ∃ b, v = .slice (some ⟨b, 0, none⟩) 0 0
def cpOwn (B N : Nat) (sp : List Sp) (w : World) (v : Value) : Prop := ∃ g c, v = .slice (some ⟨g, 0, none⟩) N c ∧ w.ownsRow B 53 2 (.slice (some ⟨g, 0, none⟩) N c) N (spans sp)
def cpAgg (B N : Nat) (sp : List Sp) (tv : Value) (w : World) (v : Value) : Prop := ∃ g c, v = .agg #[.slice (some ⟨g, 0, none⟩) N c, tv] ∧ w.ownsRow B 53 2 (.slice (some ⟨g, 0, none⟩) N c) N (spans sp)
def cpBox (B : Nat) (w : World) (v : Value) : Prop := ∃ p, v = .pointer (some ⟨p, 0, none⟩) ∧ B ≤ p ∧ Blk w p #[.slice none 0 0, .slice none 0 0] 25
theorem cpOwn_below {B N : Nat} {sp : List Sp} {w w' : World} {v : Value} (h : cpOwn B N sp w v) (hb : Below w.heap.size w w') : cpOwn B N sp w' v := by
  obtain ⟨g, c, e, ho⟩ := h
  exact ⟨g, c, e, own_kept ho hb⟩
theorem cpAgg_below {B N : Nat} {sp : List Sp} {tv : Value} {w w' : World} {v : Value} (h : cpAgg B N sp tv w v) (hb : Below w.heap.size w w') : cpAgg B N sp tv w' v := by
  obtain ⟨g, c, e, ho⟩ := h
  exact ⟨g, c, e, own_kept ho hb⟩
theorem cpBox_below {B : Nat} {w w' : World} {v : Value} (h : cpBox B w v) (hb : Below w.heap.size w w') : cpBox B w' v := by
  obtain ⟨p, e, hp, hk⟩ := h
  exact ⟨p, e, hp, hk.kept hb⟩
def cpGood (nb B N : Nat) (sv tv : Value) (sp : List Sp) : Nat → World → Value → Prop
  | 0, _, v => v = .pointer (some ⟨nb, 1, none⟩)
  | 1, _, v => v = tv
  | 2, _, v => cpNil v
  | 3, _, v => v = .pointer (some ⟨nb, 0, none⟩)
  | 4, _, v => v = sv
  | 5, w, v => (cpOwn B N sp) w v
  | 6, w, v => (cpAgg B N sp tv) w v
  | 7, w, v => (cpBox B) w v
  | _, _, v => v = .bool true
theorem cpGood_below {nb B N : Nat} {sv tv : Value} {sp : List Sp} (i : Nat) (w w' : World) (v : Value) (h : (cpGood nb B N sv tv sp) i w v) (hb : Below w.heap.size w w') : (cpGood nb B N sv tv sp) i w' v := by
  unfold cpGood at h
  split at h <;> first | exact cpOwn_below h hb | exact cpAgg_below h hb | exact cpBox_below h hb | exact h | (unfold cpGood; split <;> first | exact h | (exfalso; simp_all))

theorem trodAll_five {H : Type} {enc : TypeId × Value → H} {P : Program} {w : World} {base : Nat} {spare : Nat → Bool} {held : Bool} {t t' t'' t3 t4 : TypeId} {args : Array Value} {ds : List (DataW H)} {ps : List MemPlace} (h : DataW.TrodAll enc P w base spare held [t, t', t'', t3, t4] args.toList ds ps) :
    ∃ v v' v'' v3 v4 d d' d'' d3 d4 p p' p'' p3 p4, args = #[v, v', v'', v3, v4] ∧ ds = [d, d', d'', d3, d4] ∧ ps = p ++ p' ++ p'' ++ p3 ++ p4 ∧ DataW.Trod enc P w base spare held t v d p ∧ DataW.Trod enc P w base spare held t' v' d' p' ∧ DataW.Trod enc P w base spare held t'' v'' d'' p'' ∧ DataW.Trod enc P w base spare held t3 v3 d3 p3 ∧ DataW.Trod enc P w base spare held t4 v4 d4 p4 := by
  obtain ⟨v, vs, d, ds', p, q, hargs, rfl, rfl, hd, hrest⟩ := Go.ChangeShapes.trodAll_cons h
  obtain ⟨v', vs', d', ds'', p', q', rfl, rfl, rfl, hd', hrest'⟩ := Go.ChangeShapes.trodAll_cons hrest
  obtain ⟨v'', vs'', d'', ds''', p'', q'', rfl, rfl, rfl, hd'', hrest''⟩ := Go.ChangeShapes.trodAll_cons hrest'
  obtain ⟨v3, vs3, d3, ds3, p3, q3, rfl, rfl, rfl, hd3, hrest3⟩ := Go.ChangeShapes.trodAll_cons hrest''
  obtain ⟨v4, vs4, d4, ds4, p4, q4, rfl, rfl, rfl, hd4, hrest4⟩ := Go.ChangeShapes.trodAll_cons hrest3
  obtain ⟨rfl, rfl, rfl⟩ := Go.ChangeShapes.trodAll_nil hrest4
  exact ⟨v, v', v'', v3, v4, d, d', d'', d3, d4, p, p', p'', p3, p4, by cases args; simp_all, rfl, by simp, hd, hd', hd'', hd3, hd4⟩

end Go.Proofs.Ytlbhnicengolfaa
