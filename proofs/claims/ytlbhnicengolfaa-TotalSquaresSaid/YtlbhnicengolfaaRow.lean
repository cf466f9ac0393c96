/-
  From a walk that keeps what lay to the row's last step.
-/
import Derived.Test.YtlbhnicengolfaaData
import Derived.Below
import Derived.ChangeSame
import Derived.ProofKit
import Derived.OpenShut
import Derived.Carry
import Derived.ChangeSlices
import Derived.Lib.SmallJoins
namespace Go.Proofs.Ytlbhnicengolfaa
open Go.RowKit Go.WideShapes Go.ChangeShapes

/-- The post of a change, where all that lay lies as it lay (asks nothing of what is new). -/
theorem post_kept {H : Type} {enc : TypeId × Value → H} {P : Program} {f : Func} {s : ChangeSpec} {apart fresh handsOn again : Bool} {W W' : World} {args : Array Value} {v : Value} {ds gs : List (DataW H)} {before pa pv : List MemPlace}
    (hW : DataW.Whole enc P f.params.toList s.vars apart W args.toList ds gs before)
    (hres : ∀ (b : Nat) (sp : Nat → Bool) (hd : Bool), DataW.TrodAll enc P W' b sp hd f.resultTypes.toList (v.resultList f.resultTypes.size) (s.fn H (ds ++ gs)).results [])
    (hargs : ∀ sp : Nat → Bool, (∀ p ∈ before, sp p.block = true) → DataW.TrodAll enc P W' 0 sp true f.params.toList args.toList (s.fn H (ds ++ gs)).args pa)
    (hvars : ∀ sp : Nat → Bool, (∀ p ∈ before, sp p.block = true) → DataW.TrodVars enc P W' sp s.vars (s.fn H (ds ++ gs)).vars pv)
    (hps : before = pa ++ pv) (hb : Below W.heap.size W W')
    (hok : ∀ (j : Nat) (t : TypeId) (r : Value), f.resultTypes[j]? = some t → (v.resultList f.resultTypes.size)[j]? = some r → Value.okWide P W' .any 0 t r) :
    s.post enc P f apart fresh handsOn again W args v W' := by
  have old : ∀ p ∈ before, p.block < W.heap.size := fun p hp => hW.lt p hp
  have oldB : ∀ p ∈ before, (fun b => decide (b < W.heap.size)) p.block = true := fun p hp => by simpa using old p hp
  have split : ∀ p, p ∈ before ↔ p ∈ pa ∨ p ∈ pv := fun p => by rw [hps, List.mem_append]
  refine ⟨ds, gs, before, [], pa, pv, hW, hres _ _ _, hargs _ oldB, hvars _ oldB, World.keptBut_mono (fun p hp => ⟨hp, .inr ((split p).1 hp)⟩) (hb.frame (· ∈ before)), fun _ => ?_⟩
  obtain ⟨_, _, _, _, _, frz, nod⟩ := hW
  refine ⟨hok, _, _, ([] ++ pa) ++ pv, ⟨[] ++ pa, pv, trodAll_append (hargs _ (fun _ _ => rfl)) (hres _ _ _), hvars _ (fun _ _ => rfl), rfl, fun b off hp => ?_, fun ha => ?_⟩, fun p hp _ => ?_⟩
  · have hm : MemPlace.cell b off ∈ before := (split _).2 (by simpa using hp)
    rw [hb.frozen (old _ hm)]
    exact frz b off hm
  · have := nod ha
    rw [hps] at this
    simpa using this
  · exact (split p).2 (by simpa using hp)

/-- The arguments read as they did, where all that lay lies as it lay. -/
theorem all_stay {H : Type} {enc : TypeId × Value → H} {P : Program} (hl : laidOutB P = true) {W W' : World} {sp : Nat → Bool} (hb : Below W.heap.size W W') :
    ∀ {ts : List TypeId} {vs : List Value} {ds : List (DataW H)} {ps : List MemPlace}, (ts.all fun t => P.readableRec t && decide (t < P.types.size)) = true →
      DataW.TrodAll enc P W 0 (fun _ => true) true ts vs ds ps → (∀ x ∈ ps, x.block < W.heap.size) → (∀ x ∈ ps, sp x.block = true) → DataW.TrodAll enc P W' 0 sp true ts vs ds ps
  | [], [], [], _, _, h, _, _ => h
  | t :: ts, v :: vs, d :: ds, ps, hr, ⟨p, q, h1, h2, e⟩, hlt, hsp => by
    simp only [List.all_cons, Bool.and_eq_true, decide_eq_true_eq] at hr
    subst e
    exact ⟨p, q, Go.WideElems.Trod_stays hl hr.1.1 hr.1.2 h1 (fun x hx => hb.same (hlt x (List.mem_append_left _ hx))) (fun x hx => hsp x (List.mem_append_left _ hx)),
      all_stay hl hb hr.2 h2 (fun x hx => hlt x (List.mem_append_right _ hx)) (fun x hx => hsp x (List.mem_append_right _ hx)), rfl⟩

/-- The post of a law: it returned true, and all that lay lies as it lay. -/
theorem law_post {H : Type} {enc : TypeId × Value → H} {P : Program} {f : Func} {s : ChangeSpec} {tb : TypeId} (hl : laidOutB P = true) (hres : f.resultTypes = #[tb]) (htb : P.underlying tb = some .bool) (hvars : s.vars = [])
    (hrow : (f.params.toList.all fun t => P.readableRec t && decide (t < P.types.size)) = true) {W W' : World} {args : Array Value} {ds : List (DataW H)} {p : List MemPlace}
    (hW : DataW.Whole enc P f.params.toList s.vars false W args.toList ds [] p) (hA : DataW.TrodAll enc P W 0 (fun _ => true) true f.params.toList args.toList ds p)
    (hspec : s.fn H ds = { results := [.lit (.bool true)], args := ds }) (hb : Below W.heap.size W W') : s.post enc P f false true false false W args (.bool true) W' := by
  have hlt : ∀ x ∈ p, x.block < W.heap.size := fun x hx => hW.lt x hx
  refine post_kept (pa := p) (pv := []) hW ?_ ?_ ?_ (by simp) hb (ok_one hres rfl (okWide_bool_mk htb _))
  · intro b sp hd
    rw [List.append_nil, hspec, hres]
    exact trodAll_mk1 (shut_bool htb _)
  · intro sp hsp
    rw [List.append_nil, hspec]
    exact all_stay hl hb hrow hA hlt hsp
  · intro sp _
    rw [hvars, List.append_nil, hspec]
    exact rfl

/-- An array of bytes, opened. -/
theorem open_u8s {H : Type} {enc : TypeId × Value → H} {P : Program} {r : Reach} {b0 base n : Nat} {sp : Nat → Bool} {held : Bool} {w : World} {t e : TypeId} {v : Value} {d : DataW H} {p : List MemPlace}
    (ht : P.underlying t = some (.array n e)) (he : P.underlying e = some (.int .u8)) (hce : P.cellsOf e = 1) (hC : P.cellsOf t = n)
    (hv : Value.okWide P w r b0 t v) (h : DataW.Trod enc P w base sp held t v d p) : ∃ xs : List Int, xs.length = n ∧ v = .agg (xs.map (Value.int .u8)).toArray ∧ ∀ x ∈ xs, 0 ≤ x ∧ x ≤ 255 := by
  simp only [Value.okWide, ht] at hv
  obtain ⟨cs, rfl, hsz, _⟩ := hv
  obtain ⟨fuel, hf⟩ := h
  obtain ⟨ys, m, _, _, hl, hlen, hat⟩ := DataW.trod_array ht hf
  rw [hC] at hsz
  have hcl : (Value.agg cs).cells.toList = cs.toList := by simp [Value.cells]
  have key : ∀ i (hi : i < cs.size), ∃ k : Int, cs[i] = .int .u8 k ∧ 0 ≤ k ∧ k ≤ 255 := fun i hi => by
    have h1 := hat i (by omega)
    rw [hcl, hce, Nat.mul_one, List.drop_eq_getElem_cons (by simpa using hi), List.take_succ_cons, List.take_zero] at h1
    obtain ⟨y, hy⟩ : ∃ y, ys[i]? = some y := ⟨_, List.getElem?_eq_getElem (by omega)⟩
    rw [hy] at h1
    obtain ⟨k, hk, _, hw⟩ := DataW.trod_int he h1
    refine ⟨k, by simpa using hk, ?_⟩
    simp [Lit.wf, IntKind.min, IntKind.max, IntKind.signed, IntKind.bits] at hw
    omega
  refine ⟨cs.toList.map fun v => match v with | .int _ k => k | _ => 0, by simp [hsz], ?_, ?_⟩
  · congr 1
    apply Array.ext
    · simp
    · intro i h1 h2
      obtain ⟨k, hk, _⟩ := key i h1
      simp [hk]
  · intro x hx
    obtain ⟨u, hu, rfl⟩ := List.mem_map.1 hx
    obtain ⟨i, hi, rfl⟩ := List.mem_iff_getElem.1 hu
    obtain ⟨k, hk, h1, h2⟩ := key i (by simpa using hi)
    have : cs.toList[i] = .int .u8 k := by simpa using hk
    rw [this]
    exact ⟨h1, h2⟩

/-- A slice of integers of one kind, opened: as cells. -/
theorem open_kinds {H : Type} {enc : TypeId × Value → H} {P : Program} {b0 base : Nat} {r : Reach} {w : World} {t e : TypeId} {k : IntKind} {v : Value} {d : DataW H} {p : List MemPlace}
    (ht : P.underlying t = some (.slice e)) (he : P.underlying e = some (.int k)) (hce : P.cellsOf e = 1) (hv : Value.okWide P w r b0 t v) (h : DataW.Trod enc P w base (fun _ => true) true t v d p) :
    ∃ (a : Option Addr) (n cap : Nat) (xs : List Int), v = .slice a n cap ∧ n = xs.length ∧ n ≤ cap ∧ cap ≤ 9223372036854775807 ∧ (a = none → xs = []) ∧ Row w w.heap.size a (xs.map (Value.int k)) ∧ ∀ x ∈ xs, (Lit.int k x).wf = true := by
  obtain ⟨a, n, cap, rfl⟩ := okWide_slice ht hv
  obtain ⟨fuel, hf⟩ := h
  rcases open_ints ht he hce hf with ⟨hcs, _⟩ | ⟨a', n', cap', zs, hcs, _, hl, hm, hz, _, hcell, hwf⟩
  · simp [Value.cells] at hcs
    obtain ⟨rfl, rfl, rfl⟩ := hcs
    exact ⟨none, 0, 0, [], rfl, rfl, Nat.le_refl _, by decide, fun _ => rfl, .inl rfl, fun x hx => (by cases hx)⟩
  · simp [Value.cells] at hcs
    obtain ⟨rfl, rfl, rfl⟩ := hcs
    simp only [if_true] at hz
    refine ⟨some a', n, cap, zs.take n, rfl, by rw [List.length_take]; omega, hl, by unfold maxLen at hm; exact hm, fun h => (by cases h), ?_, fun x hx => hwf x (List.mem_of_mem_take hx)⟩
    by_cases h0 : n = 0
    · subst h0
      exact .inl (by simp)
    · have hsp : a'.spot = none := by
        have h1 := hcell 0 (by omega)
        have e : a'.add 0 = a' := by simp [Addr.add]
        rw [e] at h1
        unfold World.cell? at h1
        split at h1
        · split at h1
          · cases h1
          · rename_i hs
            cases hh : a'.spot with
            | none => rfl
            | some q => rw [hh] at hs; simp at hs
        · cases h1
      obtain ⟨b, off, sp⟩ := a'
      dsimp only at hsp
      subst hsp
      have hadd : ∀ i, (⟨b, off, none⟩ : Addr).add i = ⟨b, off + i, none⟩ := fun i => by
        unfold Addr.add
        split
        · rename_i hi; subst hi; rfl
        · rfl
      have hb : b < w.heap.size := by
        have h1 := hcell 0 (by omega)
        rw [hadd] at h1
        exact World.block_lt_of_cell? w _ h1
      refine .inr ⟨b, off, rfl, hb, fun i hi => ?_⟩
      simp only [List.length_map, List.length_take, Nat.lt_min] at hi
      have h1 := hcell i (by omega)
      rw [hadd] at h1
      rw [h1]
      simp [List.getD_eq_getElem?_getD, List.getElem?_map, hi.1, List.getElem?_eq_getElem (show i < zs.length by omega)]

/-- A struct of two ints, opened. -/
theorem open_two {H : Type} {enc : TypeId × Value → H} {P : Program} {r : Reach} {b0 base : Nat} {sp : Nat → Bool} {held : Bool} {w : World} {t : TypeId} {f0 f1 : Field} {v : Value} {d : DataW H} {p : List MemPlace}
    (hs : P.underlying t = some (.struct #[f0, f1])) (hone : Go.Deep.oneCellFields P #[f0, f1] = true) (hC : P.cellsOf t = 2) (h0 : P.underlying f0.type = some (.int .i64)) (h1 : P.underlying f1.type = some (.int .i64))
    (hv : Value.okWide P w r b0 t v) (h : DataW.Trod enc P w base sp held t v d p) : ∃ x y : Int, v = .agg #[.int .i64 x, .int .i64 y] := by
  obtain ⟨v0, v1, y0, y1, n, rfl, _, _, g0, g1⟩ := Go.Joins.open_agg2 hs hone hC hv h
  obtain ⟨x, hx, _⟩ := DataW.trod_int h0 g0
  obtain ⟨y, hy, _⟩ := DataW.trod_int h1 g1
  simp at hx hy
  exact ⟨x, y, by rw [hx, hy]⟩

theorem list2 {α : Type} {xs : List α} (h : xs.length = 2) : ∃ a b, xs = [a, b] := by
  match xs, h with
  | [a, b], _ => exact ⟨a, b, rfl⟩
theorem list4 {α : Type} {xs : List α} (h : xs.length = 4) : ∃ a b c d, xs = [a, b, c, d] := by
  match xs, h with
  | [a, b, c, d], _ => exact ⟨a, b, c, d, rfl⟩
theorem list6 {α : Type} {xs : List α} (h : xs.length = 6) : ∃ a b c d e f, xs = [a, b, c, d, e, f] := by
  match xs, h with
  | [a, b, c, d, e, f], _ => exact ⟨a, b, c, d, e, f, rfl⟩

end Go.Proofs.Ytlbhnicengolfaa
