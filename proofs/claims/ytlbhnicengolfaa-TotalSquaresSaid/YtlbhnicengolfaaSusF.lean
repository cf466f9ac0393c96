/-
  Suspects of a sky in which one quantity is read in error. A copy of a net: 'total.Net{Triangles: n.Triangles, Spans: append([]api.Span{}, n.Spans...)}', a drawn region. Nets without a ring: without a triangle its quantities are not connected; the order does not matter; a net turned. The reference's check of a net: the plain model, and that it is the program's. Openers of arguments: a net, an integer.
-/
import Derived.Test.YtlbhnicengolfaaSkyA
/-! ## SusA: Suspects of a sky in which one quantity is read in error. A copy of a net: 'total.Net{Triangles: n.Triangles, Spans: append([]api.Span{}, n.Spans...)}', a drawn region. -/
/-! ## SusP: Suspects of a sky in which one quantity is read in error. -/
namespace Go.Proofs.Ytlbhnicengolfaa
open Go.RowKit
set_option linter.unusedVariables false
set_option linter.unusedSimpArgs false

theorem sqs_set (sp : List Sp) (k : Nat) (v : Sp) : sqs (sp.set k v) = (sqs sp).set k (sqS v) := by unfold sqs; rw [List.map_set]
theorem los_set {sp : List Sp} {k : Nat} (hk : k < sp.length) (v : Sp) (i : Nat) : los (sp.set k v) i = (if i = k then v.1 else los sp i) ∧ his (sp.set k v) i = (if i = k then v.2 else his sp i) := by
  unfold los his
  rw [List.getD_eq_getElem?_getD, List.getElem?_set]
  by_cases h : i = k
  · subst h
    rw [if_pos rfl, if_pos rfl, if_pos rfl, if_pos hk]; exact ⟨rfl, rfl⟩
  · rw [if_neg (fun e => h e.symm), if_neg h, if_neg h, ← List.getD_eq_getElem?_getD]; exact ⟨rfl, rfl⟩
/-- A net with the span of one quantity replaced. -/
def withS (n : TNet) (k : Nat) (v : Sp) : TNet := ⟨n.sp.set k v, n.ts⟩
theorem withS_ok {n : TNet} (h : NOk n) {k : Nat} (hk : k < n.sp.length) {v : Sp} (h0 : 0 ≤ v.1) (h1 : v.1 ≤ v.2) (h2 : v.2 ≤ 10000) : NOk (withS n k v) := by
  have hl : (n.sp.set k v).length = n.sp.length := List.length_set
  refine ⟨by show 1 ≤ (n.sp.set k v).length; rw [hl]; exact h.l1, by show (n.sp.set k v).length ≤ 11; rw [hl]; exact h.l2, h.l3, fun i hi => ?_, fun i hi => ?_⟩
  · have hi' : i < n.sp.length := by have : i < (n.sp.set k v).length := hi; omega
    obtain ⟨e1, e2⟩ := los_set hk v i
    have := h.sp i hi'
    show 0 ≤ los (n.sp.set k v) i ∧ los (n.sp.set k v) i ≤ his (n.sp.set k v) i ∧ his (n.sp.set k v) i ≤ 10000
    rw [e1, e2]
    split <;> omega
  · show chk1 (n.sp.set k v).length (n.ts.take i) (tri n.ts i) = 0
    rw [hl]
    exact h.tr i hi
theorem withS_in {n : TNet} (h : NOk n) (k : Nat) (v : Sp) : ∀ t ∈ n.ts, ∀ o ∈ cor t, 0 ≤ o ∧ o < (((sqs n.sp).set k v).length : Int) := by rw [List.length_set, sqs_len]; exact nok_in h
theorem tru_with {ts : List Tri} {ls : List Sp} {x : Int → Int} (h : Tru ts ls x) {k : Nat} (hk : k < ls.length) {v : Sp} (hv : InS v (x k)) : Tru ts (ls.set k v) x :=
  ⟨fun q h0 hq => by
    rw [List.length_set] at hq
    rw [spA_setN hk _ h0]
    split
    · rename_i e; subst e; exact hv
    · exact h.sp q h0 hq, h.tr⟩

/-- All lengths are small. -/
def Small (n : TNet) : Prop := ∀ i, i < n.sp.length → his n.sp i ≤ 1010
theorem small_sq {n : TNet} (h : NOk n) (hs : Small n) {q : Int} (h0 : 0 ≤ q) (hq : q < n.sp.length) : 0 ≤ (spA (sqs n.sp) q).1 ∧ (spA (sqs n.sp) q).2 ≤ 1020100 := by
  rw [spA_sqs h0 hq]
  have hi : q.toNat < n.sp.length := by omega
  have a := h.sp _ hi
  have b := hs _ hi
  have c := sq_small a.1 (by omega)
  have d := sq_mono (a := his n.sp q.toNat) (b := 1010) (by omega) b
  exact ⟨c.1, by dsimp only; omega⟩
/-- What a suspect can be is not too great. -/
theorem sus_ok {n : TNet} (h : NOk n) (hs : Small n) {q : Nat} (hq : q < n.sp.length) (hf : freeOk n q = true) : (sqR (withS n q (0, 10000))).2 = 0 := by
  have hfr := nok_frst h
  have hl : ((sqs n.sp).set q (0, 1125899906842624)).length = n.sp.length := by rw [List.length_set, sqs_len]
  have hne := ne_of_ok (ls := narT n.ts ((sqs n.sp).set q (0, 1125899906842624))) (by unfold freeOk narOk at hf; simpa using hf)
  obtain ⟨x, _, hx⟩ := nar_truth hfr (withS_in h q (0, 1125899906842624)) hf (q := (q : Int)) (y := (spA (narT n.ts ((sqs n.sp).set q (0, 1125899906842624))) q).1) (by omega) (by omega) (by
    have := hne (q : Int)
    unfold fnS at this
    rw [if_pos (by omega)] at this
    exact ⟨Int.le_refl _, this⟩)
  have hother : ∀ p : Int, 0 ≤ p → p < n.sp.length → p ≠ q → 0 ≤ x p ∧ x p ≤ 1020100 := fun p h0 hp hne => by
    have h1 := hx.sp p h0 (by omega)
    rw [spA_setN (by rw [sqs_len]; exact hq) _ h0, if_neg hne] at h1
    have h2 := small_sq h hs h0 hp
    unfold InS at h1
    omega
  have hq0 : 0 ≤ x q := by
    have h1 := hx.sp (q : Int) (by omega) (by omega)
    rw [spA_setN (by rw [sqs_len]; exact hq) _ (by omega), if_pos rfl] at h1
    exact h1.1
  have key : ∃ x', Tru n.ts ((sqs n.sp).set q (0, 100000000)) x' := by
    by_cases hm : ∃ t ∈ n.ts, (q : Int) ∈ cor t
    · obtain ⟨t, ht, hqt⟩ := hm
      have hin := nok_in h t ht
      have hhl := hx.tr t ht
      obtain ⟨d1, d2, d3⟩ := frst_ne hfr t ht
      have ha := hin t.1 (by simp [cor])
      have hb := hin t.2.1 (by simp [cor])
      have hw := hin t.2.2 (by simp [cor])
      have hbig : x q ≤ 100000000 := by
        unfold Hl at hhl
        simp only [cor, List.mem_cons, List.not_mem_nil, or_false] at hqt
        rcases hqt with e | e | e
        · have h1 := hother _ hb.1 hb.2 (by omega)
          have h2 := hother _ hw.1 hw.2 (by omega)
          rw [← e] at hhl
          omega
        · have h1 := hother _ ha.1 ha.2 (by omega)
          have h2 := hother _ hw.1 hw.2 (by omega)
          rw [← e] at hhl
          omega
        · have h1 := hother _ ha.1 ha.2 (by omega)
          have h2 := hother _ hb.1 hb.2 (by omega)
          rw [← e] at hhl
          omega
      refine ⟨x, fun p h0 hp => ?_, hx.tr⟩
      rw [List.length_set] at hp
      have h1 := hx.sp p h0 (by rw [List.length_set]; exact hp)
      rw [spA_setN (by rw [sqs_len]; exact hq) _ h0] at h1 ⊢
      split
      · rename_i e; subst e; exact ⟨hq0, hbig⟩
      · rename_i e; rwa [if_neg e] at h1
    · refine ⟨fun p => if p = (q : Int) then 0 else x p, fun p h0 hp => ?_, fun t ht => ?_⟩
      · rw [List.length_set] at hp
        have h1 := hx.sp p h0 (by rw [List.length_set]; exact hp)
        rw [spA_setN (by rw [sqs_len]; exact hq) _ h0] at h1 ⊢
        split
        · exact ⟨Int.le_refl _, by decide⟩
        · rename_i e; rwa [if_neg e] at h1
      · have hn : ∀ o ∈ cor t, o ≠ (q : Int) := fun o ho e => hm ⟨t, ht, e ▸ ho⟩
        unfold Hl
        dsimp only
        rw [if_neg (hn _ (by simp [cor])), if_neg (hn _ (by simp [cor])), if_neg (hn _ (by simp [cor]))]
        exact hx.tr t ht
  have hok := withS_ok h hq (v := (0, 10000)) (by decide) (by decide) (by decide)
  obtain ⟨x', hx'⟩ := key
  have e : sqs (withS n q (0, 10000)).sp = (sqs n.sp).set q (0, 100000000) := sqs_set _ _ _
  unfold sqR
  rw [if_neg (by rw [check_of hok]; simp), e, show (withS n q (0, 10000)).ts = n.ts from rfl, (truth_nar hfr (withS_in h q (0, 100000000)) hx').1]
  rfl
/-- The quantity that is in error is suspect. -/
theorem sus_mem {n : TNet} (h : NOk n) {x : Int → Int} (hx : Tru n.ts (sqs n.sp) x) {k : Nat} (hk : k < n.sp.length) (h0 : 0 ≤ x k) (h1 : x k ≤ 1125899906842624) (v : Sp) : freeOk (withS n k v) k = true := by
  unfold freeOk
  have e : sqs (withS n k v).sp = (sqs n.sp).set k (sqS v) := sqs_set _ _ _
  rw [e, List.set_set]
  exact (truth_nar (nok_frst h) (withS_in h k _) (tru_with hx (by rw [sqs_len]; exact hk) ⟨h0, h1⟩)).1
theorem sus_sorted (n : TNet) (N : Nat) : ((List.range N).filter (freeOk n)).Pairwise (· < ·) := List.Pairwise.filter _ List.pairwise_lt_range
theorem skyTru_small {s : TSky} {lg : Nat → Int} (hs : SkyOk s) (hl : LegOk lg) : Small (skyTru s lg) := fun i hi => by
  have hx := skyX_range s hl
  have hi' : i < 1 + 2 * skyK s := by simpa [skyTru] using hi
  obtain ⟨_, e2⟩ := map_los (fun q => truS s q ((skyX s lg).getD q 0)) hi'
  obtain ⟨a, b, c, d, e, f⟩ := rt_small (hx i).1 (hx i).2
  rw [show his (skyTru s lg).sp i = _ from e2]
  unfold truS
  dsimp only
  omega
theorem withS_small {n : TNet} (h : Small n) {k : Nat} (hk : k < n.sp.length) {v : Sp} (hv : v.2 ≤ 1010) : Small (withS n k v) := fun i hi => by
  have hi' : i < n.sp.length := by have : i < (n.sp.set k v).length := hi; rwa [List.length_set] at this
  show his (n.sp.set k v) i ≤ 1010
  rw [(los_set hk v i).2]
  have := h i hi'
  split <;> omega

end Go.Proofs.Ytlbhnicengolfaa

/-! ## NetCopy: A copy of a net: 'total.Net{Triangles: n.Triangles, Spans: append([]api.Span{}, n.Spans...)}', a drawn region. -/
namespace Go.Proofs.Ytlbhnicengolfaa
open Go.RowKit
set_option linter.unusedVariables false
set_option linter.unusedSimpArgs false

theorem below_of_grown {w w' : World} (h : w.grownBy w' none) : Below w.heap.size w w' := ⟨h.os, h.tape, h.output, h.size, fun k hk => h.block k hk (by simp)⟩
def cpNil (v : Value) : Prop := ∃ b, v = .slice (some ⟨b, 0, none⟩) 0 0
def cpOwn (B N : Nat) (sp : List Sp) (w : World) (v : Value) : Prop := ∃ g c, v = .slice (some ⟨g, 0, none⟩) N c ∧ w.ownsRow B 53 2 (.slice (some ⟨g, 0, none⟩) N c) N (spans sp)
def cpAgg (B N : Nat) (sp : List Sp) (tv : Value) (w : World) (v : Value) : Prop := ∃ g c, v = .agg #[.slice (some ⟨g, 0, none⟩) N c, tv] ∧ w.ownsRow B 53 2 (.slice (some ⟨g, 0, none⟩) N c) N (spans sp)
def cpBox (B : Nat) (w : World) (v : Value) : Prop := ∃ p, v = .pointer (some ⟨p, 0, none⟩) ∧ B ≤ p ∧ Blk w p #[.slice none 0 0, .slice none 0 0] 25
theorem cpOwn_below {B N : Nat} {sp : List Sp} {w w' : World} {v : Value} (h : cpOwn B N sp w v) (hb : Below w.heap.size w w') : cpOwn B N sp w' v := by
  obtain ⟨g, c, e, ho⟩ := h
  exact ⟨g, c, e, own_kept ho hb⟩
theorem cpAgg_below {B N : Nat} {sp : List Sp} {tv : Value} {w w' : World} {v : Value} (h : cpAgg B N sp tv w v) (hb : Below w.heap.size w w') : cpAgg B N sp tv w' v := by
  obtain ⟨g, c, e, ho⟩ := h
  exact ⟨g, c, e, own_kept ho hb⟩
theorem cpBox_below {B : Nat} {w w' : World} {v : Value} (h : cpBox B w v) (hb : Below w.heap.size w w') : cpBox B w' v := by
  obtain ⟨p, e, hp, hk⟩ := h
  exact ⟨p, e, hp, hk.kept hb⟩
def cpGood (nb B N : Nat) (sv tv : Value) (sp : List Sp) : Nat → World → Value → Prop
  | 0, _, v => v = .pointer (some ⟨nb, 1, none⟩)
  | 1, _, v => v = tv
  | 2, _, v => cpNil v
  | 3, _, v => v = .pointer (some ⟨nb, 0, none⟩)
  | 4, _, v => v = sv
  | 5, w, v => (cpOwn B N sp) w v
  | 6, w, v => (cpAgg B N sp tv) w v
  | 7, w, v => (cpBox B) w v
  | _, _, v => v = .bool true
theorem cpGood_below {nb B N : Nat} {sv tv : Value} {sp : List Sp} (i : Nat) (w w' : World) (v : Value) (h : (cpGood nb B N sv tv sp) i w v) (hb : Below w.heap.size w w') : (cpGood nb B N sv tv sp) i w' v := by
  unfold cpGood at h
  split at h <;> first | exact cpOwn_below h hb | exact cpAgg_below h hb | exact cpBox_below h hb | exact h | (unfold cpGood; split <;> first | exact h | (exfalso; simp_all))

theorem trodAll_five {H : Type} {enc : TypeId × Value → H} {P : Program} {w : World} {base : Nat} {spare : Nat → Bool} {held : Bool} {t t' t'' t3 t4 : TypeId} {args : Array Value} {ds : List (DataW H)} {ps : List MemPlace} (h : DataW.TrodAll enc P w base spare held [t, t', t'', t3, t4] args.toList ds ps) :
    ∃ v v' v'' v3 v4 d d' d'' d3 d4 p p' p'' p3 p4, args = #[v, v', v'', v3, v4] ∧ ds = [d, d', d'', d3, d4] ∧ ps = p ++ p' ++ p'' ++ p3 ++ p4 ∧ DataW.Trod enc P w base spare held t v d p ∧ DataW.Trod enc P w base spare held t' v' d' p' ∧ DataW.Trod enc P w base spare held t'' v'' d'' p'' ∧ DataW.Trod enc P w base spare held t3 v3 d3 p3 ∧ DataW.Trod enc P w base spare held t4 v4 d4 p4 := by
  obtain ⟨v, vs, d, ds', p, q, hargs, rfl, rfl, hd, hrest⟩ := Go.ChangeShapes.trodAll_cons h
  obtain ⟨v', vs', d', ds'', p', q', rfl, rfl, rfl, hd', hrest'⟩ := Go.ChangeShapes.trodAll_cons hrest
  obtain ⟨v'', vs'', d'', ds''', p'', q'', rfl, rfl, rfl, hd'', hrest''⟩ := Go.ChangeShapes.trodAll_cons hrest'
  obtain ⟨v3, vs3, d3, ds3, p3, q3, rfl, rfl, rfl, hd3, hrest3⟩ := Go.ChangeShapes.trodAll_cons hrest''
  obtain ⟨v4, vs4, d4, ds4, p4, q4, rfl, rfl, rfl, hd4, hrest4⟩ := Go.ChangeShapes.trodAll_cons hrest3
  obtain ⟨rfl, rfl, rfl⟩ := Go.ChangeShapes.trodAll_nil hrest4
  exact ⟨v, v', v'', v3, v4, d, d', d'', d3, d4, p, p', p'', p3, p4, by cases args; simp_all, rfl, by simp, hd, hd', hd'', hd3, hd4⟩

end Go.Proofs.Ytlbhnicengolfaa

/-! ## Fp: Nets without a ring: without a triangle its quantities are not connected; the order does not matter; a net turned. -/
namespace Go.Proofs.Ytlbhnicengolfaa
open Go.RowKit
set_option linter.unusedVariables false
set_option linter.unusedSimpArgs false

def Apart (L : List Tri) (t : Tri) : Prop := ¬ Conn L t.1 t.2.1 ∧ ¬ Conn L t.1 t.2.2 ∧ ¬ Conn L t.2.1 t.2.2
theorem Apart.mono {L L' : List Tri} {t : Tri} (h : Apart L t) (hs : ∀ x ∈ L', x ∈ L) : Apart L' t := ⟨fun k => h.1 (k.mono hs), fun k => h.2.1 (k.mono hs), fun k => h.2.2 (k.mono hs)⟩
theorem Apart.eq {L : List Tri} {t : Tri} (h : Apart L t) {c c' : Int} (hc : c ∈ cor t) (hc' : c' ∈ cor t) (k : Conn L c c') : c = c' := by
  obtain ⟨h1, h2, h3⟩ := h
  simp only [cor, List.mem_cons, List.not_mem_nil, or_false] at hc hc'
  rcases hc with rfl | rfl | rfl <;> rcases hc' with rfl | rfl | rfl <;> first | rfl | exact absurd k h1 | exact absurd k h2 | exact absurd k h3 | exact absurd k.symm h1 | exact absurd k.symm h2 | exact absurd k.symm h3
theorem apart_of {L : List Tri} {t : Tri} (hd : t.1 ≠ t.2.1 ∧ t.1 ≠ t.2.2 ∧ t.2.1 ≠ t.2.2) (h : ∀ c ∈ cor t, ∀ c' ∈ cor t, Conn L c c' → c = c') : Apart L t :=
  ⟨fun k => hd.1 (h _ (by simp [cor]) _ (by simp [cor]) k), fun k => hd.2.1 (h _ (by simp [cor]) _ (by simp [cor]) k), fun k => hd.2.2 (h _ (by simp [cor]) _ (by simp [cor]) k)⟩
/-- Without a triangle its quantities are not connected. -/
def FPs (ts : List Tri) : Prop := ∀ pre t post, ts = pre ++ t :: post → Apart (pre ++ post) t
theorem fps_of {ts : List Tri} (h : Frst ts) : FPs ts := by
  induction h with
  | nil => intro pre t post e; simp at e
  | @snoc pre0 t0 hpre n1 n2 n3 ih =>
    intro pre t post e
    have ha0 : Apart pre0 t0 := ⟨n1, n2, n3⟩
    rcases List.eq_nil_or_concat post with rfl | ⟨post', u, rfl⟩
    · rw [List.append_nil]
      obtain ⟨e1, e2⟩ := List.append_inj' e rfl
      cases e2
      rw [← e1]; exact ha0
    · rw [List.concat_eq_append, ← List.cons_append, ← List.append_assoc] at e
      obtain ⟨e1, e2⟩ := List.append_inj' e rfl
      cases e2
      have ih' := ih pre t post' e1
      have hsub : ∀ x ∈ pre ++ post', x ∈ pre0 := fun x hx => by
        rw [e1]
        rcases List.mem_append.1 hx with h | h
        · exact List.mem_append_left _ h
        · exact List.mem_append_right _ (List.mem_cons_of_mem _ h)
      have ht : t ∈ pre0 := by rw [e1]; simp
      have hd : t.1 ≠ t.2.1 ∧ t.1 ≠ t.2.2 ∧ t.2.1 ≠ t.2.2 := ⟨fun e => ih'.1 (e ▸ .refl), fun e => ih'.2.1 (e ▸ .refl), fun e => ih'.2.2 (e ▸ .refl)⟩
      rw [List.concat_eq_append, ← List.append_assoc]
      refine apart_of hd fun c hc c' hc' k => ?_
      rcases conn_snoc k with k | ⟨d, hd1, d', hd2, k1, k2⟩
      · exact ih'.eq hc hc' k
      · have e3 : d = d' := ha0.eq hd1 hd2 (((k1.symm.mono hsub).trans (conn_cor ht hc hc')).trans (k2.symm.mono hsub))
        subst e3
        exact ih'.eq hc hc' (k1.trans k2)
theorem frst_of {ts : List Tri} (h : FPs ts) : ∀ k, k ≤ ts.length → Frst (ts.take k)
  | 0, _ => .nil
  | k + 1, hk => by
    have hk' : k < ts.length := hk
    have h1 := h (ts.take k) ts[k] (ts.drop (k + 1)) (by rw [← List.drop_eq_getElem_cons hk', List.take_append_drop])
    have h2 : Apart (ts.take k) ts[k] := h1.mono fun x hx => List.mem_append_left _ hx
    rw [List.take_succ_eq_append_getElem hk']
    exact .snoc (frst_of h k (Nat.le_of_lt hk')) h2.1 h2.2.1 h2.2.2
theorem frst_iff {ts : List Tri} : Frst ts ↔ FPs ts := ⟨fps_of, fun h => by have := frst_of h ts.length (Nat.le_refl _); rwa [List.take_length] at this⟩

/-- From the triangles' order to the program's check. -/
theorem chk1_of {N : Nat} {pre : List Tri} {t : Tri} (hN : N ≤ 11) (hU : ∀ t ∈ pre, ∀ o ∈ cor t, 0 ≤ o ∧ o < (N : Int)) (hin : ∀ o ∈ cor t, 0 ≤ o ∧ o < (N : Int)) (ha : Apart pre t) : chk1 N pre t = 0 := by
  have hi : ∀ o ∈ cor t, o ∈ idx N := fun o ho => mem_idx.2 (hin o ho)
  have key : ∀ q ∈ cor t, ∀ p, ¬ Conn pre q p → conB pre q p = false := fun q hq p hn => by
    unfold conB
    rw [decide_eq_false_iff_not, vis_iff (U := idx N) (fun t ht o ho => mem_idx.2 (hU t ht o ho)) (by rw [idx_length]; exact hN) (hi q hq)]
    exact hn
  unfold chk1
  rw [if_neg, if_neg, if_neg]
  · rw [key _ (by simp [cor]) _ ha.1, key _ (by simp [cor]) _ ha.2.1, key _ (by simp [cor]) _ ha.2.2]
    simp
  · rintro (e | e | e)
    · exact ha.1 (e ▸ .refl)
    · exact ha.2.1 (e ▸ .refl)
    · exact ha.2.2 (e ▸ .refl)
  · intro h
    obtain ⟨o, ho, hb⟩ := List.any_eq_true.1 h
    have := hin o ho
    simp [inR] at hb
    omega
theorem nok_of {n : TNet} (l1 : 1 ≤ n.sp.length) (l2 : n.sp.length ≤ 11) (l3 : n.ts.length ≤ 5) (hsp : ∀ i, i < n.sp.length → 0 ≤ los n.sp i ∧ los n.sp i ≤ his n.sp i ∧ his n.sp i ≤ 10000)
    (hin : ∀ t ∈ n.ts, ∀ o ∈ cor t, 0 ≤ o ∧ o < (n.sp.length : Int)) (hf : FPs n.ts) : NOk n :=
  ⟨l1, l2, l3, hsp, fun i hi => by
    rw [tri_eq hi]
    exact chk1_of l2 (fun t ht => hin t (List.mem_of_mem_take ht)) (hin _ (List.getElem_mem hi))
      ((hf (n.ts.take i) n.ts[i] (n.ts.drop (i + 1)) (by rw [← List.drop_eq_getElem_cons hi, List.take_append_drop])).mono fun x hx => List.mem_append_left _ hx)⟩

/-! ### a net turned -/
/-- Quantity q of m, turned by r. -/
def toQ (m r : Nat) (q : Nat) : Nat := (q + r) % m
def toI (m r : Nat) (q : Int) : Int := (toQ m r q.toNat : Nat)
/-- A triangle turned: its legs are exchanged. -/
def turnT (m r : Nat) (t : Tri) : Tri := (toI m r t.2.1, toI m r t.1, toI m r t.2.2)
theorem toQ_lt {m r q : Nat} (hm : 0 < m) : toQ m r q < m := Nat.mod_lt _ hm
theorem toQ_inj {m r q p : Nat} (hq : q < m) (hp : p < m) (h : toQ m r q = toQ m r p) : q = p := by
  unfold toQ at h
  have e1 := Nat.div_add_mod (q + r) m
  have e2 := Nat.div_add_mod (p + r) m
  rw [h] at e1
  have h3 : m * ((q + r) / m) + p = m * ((p + r) / m) + q := by omega
  rcases Nat.lt_trichotomy ((q + r) / m) ((p + r) / m) with c | c | c
  · have : m * ((q + r) / m) + m ≤ m * ((p + r) / m) := by rw [← Nat.mul_succ]; exact Nat.mul_le_mul_left _ c
    omega
  · rw [c] at h3; omega
  · have : m * ((p + r) / m) + m ≤ m * ((q + r) / m) := by rw [← Nat.mul_succ]; exact Nat.mul_le_mul_left _ c
    omega
/-- The way back. -/
def backQ (m r : Nat) (p : Nat) : Nat := toQ m (m - r % m) p
theorem to_back {m r p : Nat} (hp : p < m) : toQ m r (backQ m r p) = p := by
  unfold backQ toQ
  have h1 := Nat.mod_lt r (show 0 < m by omega)
  have e := Nat.div_add_mod r m
  rw [Nat.mod_add_mod]
  rw [show p + (m - r % m) + r = p + m * (r / m + 1) by rw [Nat.mul_add]; omega, Nat.add_mul_mod_self_left, Nat.mod_eq_of_lt hp]
theorem back_to {m r q : Nat} (hq : q < m) : backQ m r (toQ m r q) = q := toQ_inj (toQ_lt (by omega)) hq (to_back (toQ_lt (by omega)))
theorem mem_turn {m r : Nat} {t : Tri} {o : Int} (h : o ∈ cor (turnT m r t)) : ∃ c ∈ cor t, o = toI m r c := by
  simp only [turnT, cor, List.mem_cons, List.not_mem_nil, or_false] at h
  rcases h with rfl | rfl | rfl
  · exact ⟨t.2.1, by simp [cor], rfl⟩
  · exact ⟨t.1, by simp [cor], rfl⟩
  · exact ⟨t.2.2, by simp [cor], rfl⟩
theorem conn_turn {m r : Nat} {L : List Tri} (hin : ∀ t ∈ L, ∀ o ∈ cor t, 0 ≤ o ∧ o < (m : Int)) {a : Int} (ha : 0 ≤ a ∧ a < (m : Int)) {p : Int} (h : Conn (L.map (turnT m r)) (toI m r a) p) : ∃ b, p = toI m r b ∧ 0 ≤ b ∧ b < (m : Int) ∧ Conn L a b := by
  induction h with
  | refl => exact ⟨a, rfl, ha.1, ha.2, .refl⟩
  | @step x y t' _ ht h1 h2 ih =>
    obtain ⟨b, e, b0, b1, hc⟩ := ih
    obtain ⟨t, htL, rfl⟩ := List.mem_map.1 ht
    obtain ⟨c, hcm, e1⟩ := mem_turn h1
    obtain ⟨d, hdm, e2⟩ := mem_turn h2
    have hcr := hin t htL c hcm
    have hdr := hin t htL d hdm
    have : b = c := by
      have h3 : toI m r b = toI m r c := by rw [← e, ← e1]
      unfold toI at h3
      have := toQ_inj (m := m) (r := r) (q := b.toNat) (p := c.toNat) (by omega) (by omega) (by omega)
      omega
    subst this
    exact ⟨d, e2, hdr.1, hdr.2, .step t hc htL hcm hdm⟩
theorem apart_turn {m r : Nat} {L : List Tri} {t : Tri} (hin : ∀ t ∈ L, ∀ o ∈ cor t, 0 ≤ o ∧ o < (m : Int)) (ht : ∀ o ∈ cor t, 0 ≤ o ∧ o < (m : Int)) (h : Apart L t) : Apart (L.map (turnT m r)) (turnT m r t) := by
  have key : ∀ c ∈ cor t, ∀ d ∈ cor t, ¬ Conn L c d → ¬ Conn (L.map (turnT m r)) (toI m r c) (toI m r d) := fun c hc d hd hn k => by
    obtain ⟨b, e, b0, b1, hcb⟩ := conn_turn hin (ht c hc) k
    have hdr := ht d hd
    have : d = b := by
      unfold toI at e
      have := toQ_inj (m := m) (r := r) (q := d.toNat) (p := b.toNat) (by omega) (by omega) (by omega)
      omega
    subst this
    exact hn hcb
  have a1 : t.1 ∈ cor t := by simp [cor]
  have a2 : t.2.1 ∈ cor t := by simp [cor]
  have a3 : t.2.2 ∈ cor t := by simp [cor]
  exact ⟨key _ a2 _ a1 (fun k => h.1 k.symm), key _ a2 _ a3 h.2.2, key _ a1 _ a3 h.2.1⟩
theorem fps_turn {m r : Nat} {ts : List Tri} (hin : ∀ t ∈ ts, ∀ o ∈ cor t, 0 ≤ o ∧ o < (m : Int)) (h : FPs ts) : FPs (ts.map (turnT m r)) := by
  intro pre t post e
  obtain ⟨l1, l2, e1, e2, e3⟩ := List.map_eq_append_iff.1 e
  obtain ⟨u, l3, e4, e5, e6⟩ := List.map_eq_cons_iff.1 e3
  subst e2 e5 e6 e4
  rw [← List.map_append]
  have hsub : ∀ x ∈ l1 ++ l3, x ∈ ts := fun x hx => by
    rw [e1]
    rcases List.mem_append.1 hx with h | h
    · exact List.mem_append_left _ h
    · exact List.mem_append_right _ (List.mem_cons_of_mem _ h)
  exact apart_turn (fun t ht => hin t (hsub t ht)) (hin u (by rw [e1]; simp)) (h l1 u l3 e1)
theorem fps_rev {ts : List Tri} (h : FPs ts) : FPs ts.reverse := by
  intro pre t post e
  have e2 : ts = post.reverse ++ t :: pre.reverse := by
    have := congrArg List.reverse e
    simpa using this
  exact (h _ _ _ e2).mono fun x hx => by
    rcases List.mem_append.1 hx with h | h
    · exact List.mem_append_right _ (by simpa using h)
    · exact List.mem_append_left _ (by simpa using h)

/-- The net turned: spans at their new places, triangles backwards. -/
def turnN (n : TNet) (r : Nat) : TNet := ⟨(List.range n.sp.length).map fun p => n.sp.getD (backQ n.sp.length r p) (0, 0), n.ts.reverse.map (turnT n.sp.length r)⟩
theorem turnN_ok {n : TNet} (h : NOk n) (r : Nat) : NOk (turnN n r) := by
  have h1 := h.l1
  have hl : (turnN n r).sp.length = n.sp.length := by simp [turnN]
  have hin : ∀ t ∈ n.ts.reverse, ∀ o ∈ cor t, 0 ≤ o ∧ o < (n.sp.length : Int) := fun t ht => nok_in h t (List.mem_reverse.1 ht)
  refine nok_of (by rw [hl]; exact h.l1) (by rw [hl]; exact h.l2) (by show (n.ts.reverse.map _).length ≤ 5; rw [List.length_map, List.length_reverse]; exact h.l3) (fun i hi => ?_) (fun t ht o ho => ?_) (fps_turn hin (fps_rev (fps_of (nok_frst h))))
  · rw [hl] at hi
    obtain ⟨e1, e2⟩ := map_los (fun p => n.sp.getD (backQ n.sp.length r p) (0, 0)) hi
    have := h.sp (backQ n.sp.length r i) (toQ_lt (by omega))
    rw [show los (turnN n r).sp i = _ from e1, show his (turnN n r).sp i = _ from e2]
    exact this
  · obtain ⟨t', ht', rfl⟩ := List.mem_map.1 ht
    obtain ⟨c, hc, rfl⟩ := mem_turn ho
    rw [hl]
    unfold toI
    have := toQ_lt (m := n.sp.length) (r := r) (q := c.toNat) (by omega)
    omega

/-! ### what is left is the same -/
section
variable {n : TNet} {r : Nat} {ls ls' : List Sp}
/-- Spans turned. -/
def Trn (m r : Nat) (ls ls' : List Sp) : Prop := ls.length = m ∧ ls'.length = m ∧ ∀ q, q < m → ls'.getD (toQ m r q) (0, 0) = ls.getD q (0, 0)
theorem trn_tru (h : NOk n) (ht : Trn n.sp.length r ls ls') {x : Int → Int} (hx : Tru n.ts ls x) : Tru (turnN n r).ts ls' (fun p => x (backQ n.sp.length r p.toNat : Nat)) := by
  obtain ⟨h1, h2, h3⟩ := ht
  have hl1 := h.l1
  refine ⟨fun p p0 hp => ?_, fun t ht => ?_⟩
  · have hb : backQ n.sp.length r p.toNat < n.sp.length := toQ_lt (by omega)
    have e := h3 _ hb
    rw [to_back (by omega)] at e
    have := hx.sp (backQ n.sp.length r p.toNat : Nat) (by omega) (by omega)
    rw [spA_nat] at this
    unfold spA
    rw [e]
    exact this
  · obtain ⟨t', ht', rfl⟩ := List.mem_map.1 ht
    have ht' := List.mem_reverse.1 ht'
    have hin := nok_in h t' ht'
    have hbk : ∀ c ∈ cor t', ((backQ n.sp.length r (toI n.sp.length r c).toNat : Nat) : Int) = c := fun c hc => by
      have := hin c hc
      unfold toI
      rw [Int.toNat_natCast, back_to (by omega)]
      omega
    have := hx.tr t' ht'
    unfold Hl turnT at *
    dsimp only
    rw [hbk _ (by simp [cor]), hbk _ (by simp [cor]), hbk _ (by simp [cor])]
    omega
theorem tru_trn (h : NOk n) (ht : Trn n.sp.length r ls ls') {y : Int → Int} (hy : Tru (turnN n r).ts ls' y) : Tru n.ts ls (fun q => y (toI n.sp.length r q)) := by
  obtain ⟨h1, h2, h3⟩ := ht
  have hl1 := h.l1
  refine ⟨fun q q0 hq => ?_, fun t ht => ?_⟩
  · have hb : toQ n.sp.length r q.toNat < n.sp.length := toQ_lt (by omega)
    have e := h3 q.toNat (by omega)
    have := hy.sp (toQ n.sp.length r q.toNat : Nat) (by omega) (by omega)
    rw [spA_nat, e] at this
    exact this
  · have := hy.tr (turnT n.sp.length r t) (List.mem_map.2 ⟨t, List.mem_reverse.2 ht, rfl⟩)
    unfold Hl turnT at *
    dsimp only at this ⊢
    omega
theorem in_iff {n : TNet} (h : NOk n) {ls : List Sp} (hl : ls.length = n.sp.length) (hok : narOk n.ts ls = true) {q : Nat} (hq : q < n.sp.length) (y : Int) : InS ((narT n.ts ls).getD q (0, 0)) y ↔ ∃ x, x q = y ∧ Tru n.ts ls x := by
  have hin : ∀ t ∈ n.ts, ∀ o ∈ cor t, 0 ≤ o ∧ o < (ls.length : Int) := by rw [hl]; exact nok_in h
  constructor
  · intro hy
    exact nar_truth (nok_frst h) hin hok (q := (q : Int)) (by omega) (by omega) (by rw [spA_nat]; exact hy)
  · rintro ⟨x, rfl, hx⟩
    have := (truth_nar (nok_frst h) hin hx).2 (q : Int) (by omega) (by omega)
    rwa [spA_nat] at this
theorem ok_iff {n : TNet} (h : NOk n) {ls : List Sp} (hl : ls.length = n.sp.length) : narOk n.ts ls = true ↔ ∃ x, Tru n.ts ls x := by
  have hl1 := h.l1
  have hin : ∀ t ∈ n.ts, ∀ o ∈ cor t, 0 ≤ o ∧ o < (ls.length : Int) := by rw [hl]; exact nok_in h
  constructor
  · intro hok
    have hne := ne_of_ok (ls := narT n.ts ls) (by unfold narOk at hok; simpa using hok) 0
    unfold fnS at hne
    rw [if_pos (Int.le_refl _)] at hne
    obtain ⟨x, _, hx⟩ := nar_truth (nok_frst h) hin hok (q := 0) (y := (spA (narT n.ts ls) 0).1) (Int.le_refl _) (by omega) ⟨Int.le_refl _, hne⟩
    exact ⟨x, hx⟩
  · rintro ⟨x, hx⟩
    exact (truth_nar (nok_frst h) hin hx).1
theorem trn_ok (h : NOk n) (ht : Trn n.sp.length r ls ls') : narOk n.ts ls = narOk (turnN n r).ts ls' := by
  have hl : (turnN n r).sp.length = n.sp.length := by simp [turnN]
  rw [Bool.eq_iff_iff, ok_iff h ht.1, ok_iff (turnN_ok h r) (by rw [hl]; exact ht.2.1)]
  exact ⟨fun ⟨x, hx⟩ => ⟨_, trn_tru h ht hx⟩, fun ⟨y, hy⟩ => ⟨_, tru_trn h ht hy⟩⟩
theorem sp_ext {a b : Sp} (ha : a.1 ≤ a.2) (hb : b.1 ≤ b.2) (h : ∀ y, InS a y ↔ InS b y) : a = b := by
  have h1 := (h a.1).1 ⟨Int.le_refl _, ha⟩
  have h2 := (h a.2).1 ⟨ha, Int.le_refl _⟩
  have h3 := (h b.1).2 ⟨Int.le_refl _, hb⟩
  have h4 := (h b.2).2 ⟨hb, Int.le_refl _⟩
  unfold InS at *
  exact Prod.ext (by omega) (by omega)
theorem nar_le {n : TNet} {ls : List Sp} (hl : ls.length = n.sp.length) (hok : narOk n.ts ls = true) {q : Nat} (hq : q < n.sp.length) : ((narT n.ts ls).getD q (0, 0)).1 ≤ ((narT n.ts ls).getD q (0, 0)).2 := by
  have := ne_of_ok (ls := narT n.ts ls) (by unfold narOk at hok; simpa using hok) (q : Int)
  unfold fnS at this
  rwa [if_pos (by omega), spA_nat] at this
theorem trn_nar (h : NOk n) (ht : Trn n.sp.length r ls ls') (hok : narOk n.ts ls = true) {q : Nat} (hq : q < n.sp.length) : (narT (turnN n r).ts ls').getD (toQ n.sp.length r q) (0, 0) = (narT n.ts ls).getD q (0, 0) := by
  have hl : (turnN n r).sp.length = n.sp.length := by simp [turnN]
  have hok' : narOk (turnN n r).ts ls' = true := by rw [← trn_ok h ht]; exact hok
  have hq' : toQ n.sp.length r q < (turnN n r).sp.length := by rw [hl]; exact toQ_lt (by omega)
  refine sp_ext (nar_le (by rw [hl]; exact ht.2.1) hok' hq') (nar_le ht.1 hok hq) fun y => ?_
  rw [in_iff (turnN_ok h r) (by rw [hl]; exact ht.2.1) hok' hq', in_iff h ht.1 hok hq]
  constructor
  · rintro ⟨z, e, hz⟩
    refine ⟨_, ?_, tru_trn h ht hz⟩
    show z (toI n.sp.length r q) = y
    rw [← e]; unfold toI; rw [Int.toNat_natCast]
  · rintro ⟨x, e, hx⟩
    refine ⟨_, ?_, trn_tru h ht hx⟩
    show x (backQ n.sp.length r (toQ n.sp.length r q : Int).toNat : Nat) = y
    rw [Int.toNat_natCast, back_to hq]; exact e
theorem trn_sqs (h : NOk n) : Trn n.sp.length r (sqs n.sp) (sqs (turnN n r).sp) := by
  have hl1 := h.l1
  refine ⟨sqs_len _, by rw [sqs_len]; simp [turnN], fun q hq => ?_⟩
  have hq' : toQ n.sp.length r q < n.sp.length := toQ_lt (by omega)
  unfold sqs turnN
  rw [List.getD_eq_getElem?_getD, List.getElem?_map, List.getElem?_map, List.getElem?_range hq', List.getD_eq_getElem?_getD, List.getElem?_map]
  simp only [Option.map_some, Option.getD_some]
  rw [back_to hq, List.getD_eq_getElem?_getD, List.getElem?_eq_getElem hq]
  rfl
theorem trn_set {m : Nat} (ht : Trn m r ls ls') {k : Nat} (hk : k < m) (v : Sp) : Trn m r (ls.set k v) (ls'.set (toQ m r k) v) := by
  obtain ⟨h1, h2, h3⟩ := ht
  refine ⟨by rw [List.length_set]; exact h1, by rw [List.length_set]; exact h2, fun q hq => ?_⟩
  have hk' : toQ m r k < m := toQ_lt (by omega)
  rw [List.getD_eq_getElem?_getD, List.getElem?_set, List.getD_eq_getElem?_getD, List.getElem?_set]
  by_cases e : k = q
  · subst e
    rw [if_pos rfl, if_pos rfl, if_pos (by omega), if_pos (by omega)]
  · rw [if_neg (fun e' => e (toQ_inj hk hq e')), if_neg e, ← List.getD_eq_getElem?_getD, ← List.getD_eq_getElem?_getD]
    exact h3 q hq
theorem trn_free (h : NOk n) {k : Nat} (hk : k < n.sp.length) : freeOk (turnN n r) (toQ n.sp.length r k) = freeOk n k := (trn_ok h (trn_set (trn_sqs h) hk _)).symm
end

end Go.Proofs.Ytlbhnicengolfaa

/-! ## RChkP: The reference's check of a net: the plain model, and that it is the program's. -/
namespace Go.Proofs.Ytlbhnicengolfaa
open Go.RowKit
set_option linter.unusedVariables false
set_option linter.unusedSimpArgs false

def min3 (a b c : Int) : Int := min (min a b) c
def partA (part : List Int) (q : Int) : Int := part.getD q.toNat 0
def inP (a b c p : Int) : Prop := p = a ∨ p = b ∨ p = c
instance (a b c p : Int) : Decidable (inP a b c p) := by unfold inP; infer_instance
def rPart (part : List Int) (a b c : Int) : List Int := part.map fun p => if inP a b c p then min3 a b c else p
/-- The first k of them. -/
def rPartK (part : List Int) (a b c : Int) (k : Nat) : List Int := (part.take k).map (fun p => if inP a b c p then min3 a b c else p) ++ part.drop k
def rChk1 (N : Nat) (part : List Int) (t : Tri) : Int :=
  if (cor t).any (fun q => !inR N q) then 6 else if t.1 = t.2.1 ∨ t.1 = t.2.2 ∨ t.2.1 = t.2.2 then 7
  else if partA part t.1 = partA part t.2.1 ∨ partA part t.1 = partA part t.2.2 ∨ partA part t.2.1 = partA part t.2.2 then 21 else 0
def rNext (part : List Int) (t : Tri) : List Int := rPart part (partA part t.1) (partA part t.2.1) (partA part t.2.2)
def rChkL (N : Nat) : List Int → List Tri → Int
  | _, [] => 0
  | part, t :: r => if rChk1 N part t ≠ 0 then rChk1 N part t else rChkL N (rNext part t) r
def part0 (N : Nat) : List Int := (List.range N).map fun i : Nat => (i : Int)
def rCheck (n : TNet) : Int :=
  if n.sp.length = 0 then 2 else if 11 < n.sp.length ∨ 5 < n.ts.length then 3 else if n.sp.any badS then 1 else rChkL n.sp.length (part0 n.sp.length) n.ts

/-- Quantities of one part are those that are connected. -/
def PInv (N : Nat) (pre : List Tri) (part : List Int) : Prop := part.length = N ∧ ∀ q p : Int, 0 ≤ q → q < N → 0 ≤ p → p < N → (partA part q = partA part p ↔ Conn pre q p)
theorem pinv_start (N : Nat) : PInv N [] (part0 N) := by
  refine ⟨by simp [part0], fun q p q0 qN p0 pN => ?_⟩
  have e : ∀ x : Int, 0 ≤ x → x < N → partA (part0 N) x = x := fun x h0 h1 => by
    have hx : x.toNat < N := by omega
    simp [partA, part0, List.getD, hx]
    omega
  rw [e q q0 qN, e p p0 pN]
  constructor
  · rintro rfl; exact .refl
  · intro h
    cases h with
    | refl => rfl
    | step t _ ht => cases ht
theorem partA_rPart (part : List Int) (a b c : Int) {q : Int} (h0 : 0 ≤ q) (hq : q < part.length) : partA (rPart part a b c) q = if inP a b c (partA part q) then min3 a b c else partA part q := by
  have hx : q.toNat < part.length := by omega
  simp [partA, rPart, List.getD, hx]
theorem min3_in (a b c : Int) : inP a b c (min3 a b c) := by unfold inP min3; omega
theorem pinv_step {N : Nat} {pre : List Tri} {part : List Int} {t : Tri} (h : PInv N pre part) (hin : ∀ o ∈ cor t, 0 ≤ o ∧ o < (N : Int)) : PInv N (pre ++ [t]) (rNext part t) := by
  obtain ⟨hl, hp⟩ := h
  have ha := hin t.1 (by simp [cor])
  have hb := hin t.2.1 (by simp [cor])
  have hc := hin t.2.2 (by simp [cor])
  have ht : t ∈ pre ++ [t] := by simp
  have hset : ∀ q : Int, 0 ≤ q → q < N → (inP (partA part t.1) (partA part t.2.1) (partA part t.2.2) (partA part q) ↔ ∃ o ∈ cor t, Conn pre q o) := fun q q0 qN => by
    unfold inP
    rw [hp q _ q0 qN ha.1 ha.2, hp q _ q0 qN hb.1 hb.2, hp q _ q0 qN hc.1 hc.2]
    constructor
    · rintro (h | h | h)
      · exact ⟨_, by simp [cor], h⟩
      · exact ⟨_, by simp [cor], h⟩
      · exact ⟨_, by simp [cor], h⟩
    · rintro ⟨o, ho, h⟩
      simp only [cor, List.mem_cons, List.not_mem_nil, or_false] at ho
      rcases ho with rfl | rfl | rfl
      · exact .inl h
      · exact .inr (.inl h)
      · exact .inr (.inr h)
  refine ⟨by simp [rNext, rPart, hl], fun q p q0 qN p0 pN => ?_⟩
  unfold rNext
  rw [partA_rPart _ _ _ _ q0 (by omega), partA_rPart _ _ _ _ p0 (by omega)]
  have hq := hset q q0 qN
  have hpp := hset p p0 pN
  have hm := min3_in (partA part t.1) (partA part t.2.1) (partA part t.2.2)
  by_cases c1 : inP (partA part t.1) (partA part t.2.1) (partA part t.2.2) (partA part q)
  · rw [if_pos c1]
    obtain ⟨o, ho, k⟩ := hq.1 c1
    by_cases c2 : inP (partA part t.1) (partA part t.2.1) (partA part t.2.2) (partA part p)
    · rw [if_pos c2]
      obtain ⟨o', ho', k'⟩ := hpp.1 c2
      exact ⟨fun _ => ((conn_pre k).trans (conn_cor ht ho ho')).trans (conn_pre k').symm, fun _ => rfl⟩
    · rw [if_neg c2]
      refine ⟨fun e => absurd (e ▸ hm) c2, fun k2 => absurd (hpp.2 ?_) c2⟩
      rcases conn_snoc k2 with k3 | ⟨d, hd, d', hd', _, k4⟩
      · exact ⟨o, ho, k3.symm.trans k⟩
      · exact ⟨d', hd', k4.symm⟩
  · rw [if_neg c1]
    by_cases c2 : inP (partA part t.1) (partA part t.2.1) (partA part t.2.2) (partA part p)
    · rw [if_pos c2]
      refine ⟨fun e => absurd (e ▸ hm) c1, fun k2 => absurd (hq.2 ?_) c1⟩
      obtain ⟨o, ho, k⟩ := hpp.1 c2
      rcases conn_snoc k2 with k3 | ⟨d, hd, d', hd', k4, _⟩
      · exact ⟨o, ho, k3.trans k⟩
      · exact ⟨d, hd, k4⟩
    · rw [if_neg c2, hp q p q0 qN p0 pN]
      refine ⟨conn_pre, fun k2 => ?_⟩
      rcases conn_snoc k2 with k3 | ⟨d, hd, d', hd', k4, _⟩
      · exact k3
      · exact absurd (hq.2 ⟨d, hd, k4⟩) c1
theorem rchk1_eq {N : Nat} {pre : List Tri} {part : List Int} (hN : N ≤ 11) (hU : ∀ t ∈ pre, ∀ o ∈ cor t, 0 ≤ o ∧ o < (N : Int)) (h : PInv N pre part) (t : Tri) : rChk1 N part t = chk1 N pre t := by
  unfold rChk1 chk1
  by_cases h1 : (cor t).any (fun q => !inR N q) = true
  · rw [if_pos h1, if_pos h1]
  · rw [if_neg h1, if_neg h1]
    have hin : ∀ o ∈ cor t, 0 ≤ o ∧ o < (N : Int) := fun o ho => by
      simp only [List.any_eq_true, not_exists, not_and] at h1
      have := h1 o ho
      simpa [inR] using this
    have ha := hin t.1 (by simp [cor])
    have hb := hin t.2.1 (by simp [cor])
    have hc := hin t.2.2 (by simp [cor])
    have key : ∀ q p : Int, 0 ≤ q → q < N → 0 ≤ p → p < N → (conB pre q p = true ↔ partA part q = partA part p) := fun q p q0 qN p0 pN => by
      rw [h.2 q p q0 qN p0 pN]
      unfold conB
      rw [decide_eq_true_eq, vis_iff (U := idx N) (fun t ht o ho => mem_idx.2 (hU t ht o ho)) (by rw [idx_length]; exact hN) (mem_idx.2 ⟨q0, qN⟩)]
    split
    · rfl
    · congr 1
      rw [eq_iff_iff]
      simp only [Bool.or_eq_true]
      rw [key _ _ ha.1 ha.2 hb.1 hb.2, key _ _ ha.1 ha.2 hc.1 hc.2, key _ _ hb.1 hb.2 hc.1 hc.2, or_assoc]
theorem rchkL_eq {N : Nat} (hN : N ≤ 11) : ∀ (r : List Tri) (pre : List Tri) (part : List Int), (∀ t ∈ pre, ∀ o ∈ cor t, 0 ≤ o ∧ o < (N : Int)) → PInv N pre part → rChkL N part r = chkL N pre r
  | [], _, _, _, _ => rfl
  | t :: r, pre, part, hU, h => by
    have e := rchk1_eq hN hU h t
    unfold rChkL chkL
    rw [e]
    by_cases h0 : chk1 N pre t ≠ 0
    · rw [if_pos h0, if_pos h0]
    · rw [if_neg h0, if_neg h0]
      have hin := chk1_in (Decidable.not_not.1 h0)
      exact rchkL_eq hN r _ _ (fun x hx => by
        rw [List.mem_append, List.mem_singleton] at hx
        rcases hx with hx | rfl
        · exact hU x hx
        · exact hin) (pinv_step h hin)
theorem rCheck_eq (n : TNet) : rCheck n = checkT n := by
  unfold rCheck checkT
  split
  · rfl
  · split
    · rfl
    · split
      · rfl
      · exact rchkL_eq (by omega) _ _ _ (fun t ht => by cases ht) (pinv_start _)

end Go.Proofs.Ytlbhnicengolfaa

/-! ## NetO: Openers of arguments: a net, an integer. -/
namespace Go.Proofs.Ytlbhnicengolfaa
open Go.RowKit Go.WideShapes Go.ChangeShapes Go.Deep
set_option linter.unusedVariables false

/-- A net as an argument of a law: it may be large. -/
structure NetArg (n : TNet) (sa ta : Option Addr) (sn tn tc : Nat) (w : World) : Prop where
  hsn : sn = n.sp.length
  htn : tn = n.ts.length
  htc : tn ≤ tc
  htc2 : tc ≤ 9223372036854775807
  rs : Row w w.heap.size sa (spans n.sp)
  rt : Row w w.heap.size ta (tris n.ts)
theorem NetArg.small {n : TNet} {sa ta : Option Addr} {sn tn tc : Nat} {w : World} (h : NetArg n sa ta sn tn tc w) (h1 : ¬ 40 < sn) (h2 : ¬ 40 < tn) : NetIn n sa ta sn tn tc w :=
  ⟨h.hsn, h.htn, h.htc, h.htc2, by omega, by omega, h.rs, h.rt⟩

theorem flat_tris (n : Nat) (f : Nat → Nat → Int) : tris ((List.range n).map fun i => (f i 0, f i 1, f i 2)) = flat 3 n f := by
  have hl : (tris ((List.range n).map fun i => (f i 0, f i 1, f i 2))).length = (flat 3 n f).length := by rw [tris_length, flat_length]; simp; omega
  refine List.ext_getElem hl fun q h1 h2 => ?_
  rw [flat_length] at h2
  have hk : q / 3 < ((List.range n).map fun i => (f i 0, f i 1, f i 2)).length := by simp; omega
  obtain ⟨e1, e2, e3⟩ := tris_get ((List.range n).map fun i => (f i 0, f i 1, f i 2)) (q / 3) hk
  have et : tri ((List.range n).map fun i => (f i 0, f i 1, f i 2)) (q / 3) = (f (q / 3) 0, f (q / 3) 1, f (q / 3) 2) := by
    rw [tri_eq hk]; simp
  rw [et] at e1 e2 e3
  have er : (flat 3 n f)[q] = .int .i64 (f (q / 3) (q % 3)) := by simp [flat]
  rw [er]
  have hm : q % 3 = 0 ∨ q % 3 = 1 ∨ q % 3 = 2 := by omega
  rcases hm with hm | hm | hm
  · rw [show 3 * (q / 3) = q by omega, List.getD_eq_getElem?_getD, List.getElem?_eq_getElem h1] at e1
    rw [hm]; exact e1
  · rw [show 3 * (q / 3) + 1 = q by omega, List.getD_eq_getElem?_getD, List.getElem?_eq_getElem h1] at e2
    rw [hm]; exact e2
  · rw [show 3 * (q / 3) + 2 = q by omega, List.getD_eq_getElem?_getD, List.getElem?_eq_getElem h1] at e3
    rw [hm]; exact e3

/-- A net, opened. -/
theorem open_net {H : Type} {enc : TypeId × Value → H} {P : Program} {r : Reach} {b0 base : Nat} {sp : Nat → Bool} {held : Bool} {w : World} {t e e' i : TypeId} {f0 f1 g0 g1 k0 k1 k2 : Field} {v : Value} {d : DataW H} {p : List MemPlace}
    (ht : P.underlying t = some (.struct #[f0, f1])) (hC : P.cellsOf t = 2) (o0 : f0.offset = 0) (o1 : f1.offset = 1)
    (h0 : P.underlying f0.type = some (.slice e)) (he : P.underlying e = some (.struct #[g0, g1])) (h1 : P.underlying f1.type = some (.slice e')) (he' : P.underlying e' = some (.struct #[k0, k1, k2])) (hi : P.underlying i = some (.int .i64))
    (t0 : g0.type = i) (t1 : g1.type = i) (t2 : k0.type = i) (t3 : k1.type = i) (t4 : k2.type = i)
    (hone : oneCellFields P #[g0, g1] = true) (hone' : oneCellFields P #[k0, k1, k2] = true) (hCe : P.cellsOf e = 2) (hCe' : P.cellsOf e' = 3) (c0 : P.cellsOf f0.type = 1) (c1 : P.cellsOf f1.type = 1)
    (hv : Value.okWide P w r b0 t v) (h : DataW.Trod enc P w base sp held t v d p) :
    ∃ (n : TNet) (sa : Option Addr) (sn sc : Nat) (ta : Option Addr) (tn tc : Nat), v = netV sa ta sn sc tn tc ∧ NetArg n sa ta sn tn tc w := by
  simp only [Value.okWide, ht] at hv
  obtain ⟨cs, rfl, hsz, _⟩ := hv
  obtain ⟨fuel, hf⟩ := h
  have hcl : (Value.agg cs).cells.toList = cs.toList := by simp [Value.cells]
  rw [hcl] at hf
  obtain ⟨y0, y1, n, _, hl, q0, q1⟩ := trod_struct2 ht hf
  rw [o0, c0] at q0
  rw [o1, c1] at q1
  obtain ⟨a, len, cap, f, es, hlc, hcap, hnil, hrow, _⟩ := open_rows h0 he hone hCe (by show 0 < 2; omega) (by
    intro j f hj
    match j with
    | 0 => cases hj; exact (congrArg P.underlying t0).trans hi
    | 1 => cases hj; exact (congrArg P.underlying t1).trans hi
    | j + 2 => simp at hj) q0
  obtain ⟨a', len', cap', f', es', hlc', hcap', hnil', hrow', _⟩ := open_rows h1 he' hone' hCe' (by show 0 < 3; omega) (by
    intro j f hj
    match j with
    | 0 => cases hj; exact (congrArg P.underlying t2).trans hi
    | 1 => cases hj; exact (congrArg P.underlying t3).trans hi
    | 2 => cases hj; exact (congrArg P.underlying t4).trans hi
    | j + 3 => simp at hj) q1
  rw [hC] at hl
  obtain ⟨l⟩ := cs
  match l, hl with
  | [x0, x1], _ =>
    simp at es es'
    subst es es'
    refine ⟨⟨(List.range len).map fun i => (f i 0, f i 1), (List.range len').map fun i => (f' i 0, f' i 1, f' i 2)⟩, a, len, cap, a', len', cap', rfl, ⟨by simp, by simp, hlc', hcap', ?_, ?_⟩⟩
    · show Row w w.heap.size a (spans ((List.range len).map fun i => (f i 0, f i 1)))
      rw [flat_spans]; exact hrow
    · show Row w w.heap.size a' (tris ((List.range len').map fun i => (f' i 0, f' i 1, f' i 2)))
      rw [flat_tris]; exact hrow'

theorem open_i64 {H : Type} {enc : TypeId × Value → H} {P : Program} {base b0 : Nat} {r : Reach} {sp : Nat → Bool} {held : Bool} {w : World} {t : TypeId} {v : Value} {d : DataW H} {p : List MemPlace}
    (ht : P.underlying t = some (.int .i64)) (hv : Value.okWide P w r b0 t v) (h : DataW.Trod enc P w base sp held t v d p) : ∃ x : Int, v = .int .i64 x := okWide_int ht hv

end Go.Proofs.Ytlbhnicengolfaa
