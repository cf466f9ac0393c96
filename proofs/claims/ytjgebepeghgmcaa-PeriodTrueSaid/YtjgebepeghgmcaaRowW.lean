/-
  Openers of arguments: a watch by numbers, arrays of bytes, single bytes.
-/
import Derived.Test.YtjgebepeghgmcaaRow
import Derived.Test.YtjgebepeghgmcaaWatchL
import Derived.Deep.Strs
namespace Go.Proofs.Ytjgebepeghgmcaa
open Go.RowKit Go.WideShapes Go.ChangeShapes

/-- The cells of an array of bytes. -/
theorem u8s_cells {H : Type} {enc : TypeId × Value → H} {P : Program} {base n fuel : Nat} {sp : Nat → Bool} {held : Bool} {w : World} {t e : TypeId} {cs : List Value} {x : DataW H × List MemPlace}
    (ht : P.underlying t = some (.array n e)) (he : P.underlying e = some (.int .u8)) (hce : P.cellsOf e = 1) (hC : P.cellsOf t = n) (h : DataW.trod enc P w base sp held fuel t cs = some x) :
    ∃ xs : List Int, xs.length = n ∧ cs = xs.map (Value.int .u8) ∧ ∀ x ∈ xs, 0 ≤ x ∧ x ≤ 255 := by
  obtain ⟨ys, m, _, _, hl, hlen, hat⟩ := DataW.trod_array ht h
  rw [hC] at hl
  have key : ∀ i (hi : i < cs.length), ∃ k : Int, cs[i] = .int .u8 k ∧ 0 ≤ k ∧ k ≤ 255 := fun i hi => by
    have h1 := hat i (by omega)
    rw [hce, Nat.mul_one, List.drop_eq_getElem_cons hi, List.take_succ_cons, List.take_zero] at h1
    obtain ⟨y, hy⟩ : ∃ y, ys[i]? = some y := ⟨_, List.getElem?_eq_getElem (by omega)⟩
    rw [hy] at h1
    obtain ⟨k, hk, _, hw⟩ := DataW.trod_int he h1
    refine ⟨k, by simpa using hk, ?_⟩
    simp [Lit.wf, IntKind.min, IntKind.max, IntKind.signed, IntKind.bits] at hw
    omega
  refine ⟨cs.map fun v => match v with | .int _ k => k | _ => 0, by simp [hl], ?_, ?_⟩
  · rw [List.map_map]
    refine (List.map_id cs).symm.trans (List.map_congr_left fun u hu => ?_)
    obtain ⟨i, hi, rfl⟩ := List.mem_iff_getElem.1 hu
    obtain ⟨k, hk, _⟩ := key i hi
    simp [hk]
  · intro x hx
    obtain ⟨u, hu, rfl⟩ := List.mem_map.1 hx
    obtain ⟨i, hi, rfl⟩ := List.mem_iff_getElem.1 hu
    obtain ⟨k, hk, h1, h2⟩ := key i hi
    rw [hk]
    exact ⟨h1, h2⟩

/-- A byte, opened. -/
theorem open_u8 {H : Type} {enc : TypeId × Value → H} {P : Program} {base b0 : Nat} {r : Reach} {sp : Nat → Bool} {held : Bool} {w : World} {t : TypeId} {v : Value} {d : DataW H} {p : List MemPlace}
    (ht : P.underlying t = some (.int .u8)) (hv : Value.okWide P w r b0 t v) (h : DataW.Trod enc P w base sp held t v d p) : ∃ x : Int, v = .int .u8 x ∧ 0 ≤ x ∧ x ≤ 255 := by
  obtain ⟨x, rfl⟩ := okWide_int ht hv
  obtain ⟨n, hn⟩ := h
  obtain ⟨k, hk, _, hw⟩ := DataW.trod_int ht hn
  have hk' : x = k := by simpa [Value.cells] using hk
  subst hk'
  refine ⟨x, rfl, ?_⟩
  simp [Lit.wf, IntKind.min, IntKind.max, IntKind.signed, IntKind.bits] at hw
  omega

/-- A watch, opened. -/
theorem open_watch {H : Type} {enc : TypeId × Value → H} {P : Program} {r : Reach} {b0 base : Nat} {sp : Nat → Bool} {held : Bool} {w : World} {t e : TypeId} {f0 f1 f2 : Field} {v : Value} {d : DataW H} {p : List MemPlace}
    (ht : P.underlying t = some (.struct #[f0, f1, f2])) (hC : P.cellsOf t = 9) (o0 : f0.offset = 0) (o1 : f1.offset = 2) (o2 : f2.offset = 8)
    (h0 : P.underlying f0.type = some (.array 2 e)) (h1 : P.underlying f1.type = some (.array 6 e)) (h2 : P.underlying f2.type = some .bool) (he : P.underlying e = some (.int .u8)) (hce : P.cellsOf e = 1)
    (c0 : P.cellsOf f0.type = 2) (c1 : P.cellsOf f1.type = 6) (c2 : P.cellsOf f2.type = 1)
    (hv : Value.okWide P w r b0 t v) (h : DataW.Trod enc P w base sp held t v d p) : ∃ x : WNum, x.Ok ∧ v = x.val := by
  simp only [Value.okWide, ht] at hv
  obtain ⟨cs, rfl, hsz, _⟩ := hv
  obtain ⟨fuel, hf⟩ := h
  have hcl : (Value.agg cs).cells.toList = cs.toList := by simp [Value.cells]
  rw [hcl] at hf
  obtain ⟨y0, y1, y2, n, _, hl, g0, g1, g2⟩ := Go.Deep.trod_struct3 ht hf
  rw [o0, c0] at g0
  rw [o1, c1] at g1
  rw [o2, c2] at g2
  obtain ⟨xs, hx, ex, hxb⟩ := u8s_cells h0 he hce c0 g0
  obtain ⟨ys, hy, ey, hyb⟩ := u8s_cells h1 he hce c1 g1
  obtain ⟨b, eb, _⟩ := DataW.trod_bool h2 g2
  have hl9 : cs.toList.length = 9 := by rw [hl, hC]
  obtain ⟨a, b', rfl⟩ := list2 hx
  obtain ⟨t0, t1, t2, t3, t4, t5, rfl⟩ := list6 hy
  have e : cs.toList = [.int .u8 a, .int .u8 b', .int .u8 t0, .int .u8 t1, .int .u8 t2, .int .u8 t3, .int .u8 t4, .int .u8 t5, .bool b] := by
    have e1 : cs.toList = cs.toList.take 2 ++ ((cs.toList.drop 2).take 6 ++ (cs.toList.drop 8).take 1) := by
      have q1 := List.take_append_drop 2 cs.toList
      have q2 := List.take_append_drop 6 (cs.toList.drop 2)
      have q3 : (cs.toList.drop 8).take 1 = cs.toList.drop 8 := List.take_of_length_le (by rw [List.length_drop, hl9]; decide)
      rw [q3]
      rw [List.drop_drop] at q2
      rw [q2, q1]
    rw [e1]
    rw [List.drop_zero] at ex
    rw [ex, ey, eb]
    rfl
  refine ⟨⟨a, b', fun i => [t0, t1, t2, t3, t4, t5].getD i 0, b⟩, ⟨hxb a (by simp), hxb b' (by simp), fun i => ?_⟩, ?_⟩
  · show 0 ≤ [t0, t1, t2, t3, t4, t5].getD i 0 ∧ [t0, t1, t2, t3, t4, t5].getD i 0 ≤ 255
    by_cases hi : i < 6
    · rw [List.getD_eq_getElem?_getD, List.getElem?_eq_getElem (by simpa using hi)]
      exact hyb _ (List.getElem_mem _)
    · rw [List.getD_eq_getElem?_getD, List.getElem?_eq_none (by simpa using hi)]
      simp
  · show Value.agg cs = _
    have : cs = #[.int .u8 a, .int .u8 b', .int .u8 t0, .int .u8 t1, .int .u8 t2, .int .u8 t3, .int .u8 t4, .int .u8 t5, .bool b] := by
      apply Array.ext'
      exact e
    rw [this]
    rfl

end Go.Proofs.Ytjgebepeghgmcaa
