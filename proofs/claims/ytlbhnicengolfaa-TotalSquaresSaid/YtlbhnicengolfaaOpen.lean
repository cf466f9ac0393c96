/-
  Openers of arguments: a slice of structs of integers; a log.
-/
import Derived.Test.YtlbhnicengolfaaRow
import Derived.Deep.Slices
import Derived.Deep.Fields
namespace Go.Proofs.Ytlbhnicengolfaa
open Go.RowKit Go.WideShapes Go.ChangeShapes Go.Deep

/-- Rows of k integers each. -/
def flat (k n : Nat) (f : Nat → Nat → Int) : List Value := (List.range (n * k)).map fun q => .int .i64 (f (q / k) (q % k))
theorem flat_length (k n : Nat) (f : Nat → Nat → Int) : (flat k n f).length = n * k := by simp [flat]

section
variable {H : Type} {enc : TypeId × Value → H} {P : Program} {w : World} {base : Nat} {spare : Nat → Bool} {held : Bool}

theorem spot_of_cell {a : Addr} {v : Value} (h : w.cell? a = some v) : a.spot = none := by
  unfold World.cell? at h
  split at h
  · split at h
    · cases h
    · rename_i hs
      cases hh : a.spot with
      | none => rfl
      | some q => rw [hh] at hs; simp at hs
  · cases h

/-- A slice of structs of k integers. -/
theorem open_rows {t e : TypeId} {fs : Array Field} {fuel : Nat} {cs : List Value} {x : DataW H × List MemPlace} (ht : P.underlying t = some (.slice e)) (he : P.underlying e = some (.struct fs))
    (hone : oneCellFields P fs = true) (hC : P.cellsOf e = fs.size) (hk : 0 < fs.size) (hint : ∀ (j : Nat) (f : Field), fs[j]? = some f → P.underlying f.type = some (.int .i64))
    (h : DataW.trod enc P w base spare held fuel t cs = some x) :
    ∃ (a : Option Addr) (n cap : Nat) (f : Nat → Nat → Int), cs = [.slice a n cap] ∧ n ≤ cap ∧ cap ≤ 9223372036854775807 ∧ (a = none → n = 0) ∧ Row w w.heap.size a (flat fs.size n f) ∧
      ∀ i j, i < n → j < fs.size → (Lit.int .i64 (f i j)).wf = true := by
  rcases open_slice ht h with ⟨rfl, _⟩ | ⟨a, len, cap, m, n, D, Pl, hcs, hb, hl, hm, hmm, hx, hi⟩
  · exact ⟨none, 0, 0, fun _ _ => 0, rfl, Nat.le_refl _, by decide, fun _ => rfl, .inl (by simp [flat]), fun i j h _ => by omega⟩
  · have hlm : len ≤ m := by rw [hmm]; split <;> omega
    have key : ∀ i j, i < len → j < fs.size → ∃ y : Int, w.cell? (a.add (i * fs.size + j)) = some (.int .i64 y) ∧ (Lit.int .i64 y).wf = true := fun i j him hjf => by
      obtain ⟨cs', hc, ht'⟩ := hi i (by omega)
      rw [hC] at hc
      obtain ⟨ys, n', hn', hy, hlen, hyl, hf⟩ := DataW.trod_struct he ht'
      obtain ⟨_, hcl, hat⟩ := World.cells?_some hc
      obtain ⟨f, hj⟩ : ∃ f, fs[j]? = some f := ⟨_, Array.getElem?_eq_getElem hjf⟩
      obtain ⟨ho, hk'⟩ := hone_of hone j f hj
      have hcell := hat j hjf
      have hv : cs'[j]? = some (cs'[j]'(by omega)) := List.getElem?_eq_getElem (by omega)
      have h1 := hf j f hj
      rw [ho, hk'] at h1
      have hone' : (cs'.drop j).take 1 = [cs'[j]'(by omega)] := by
        rw [List.drop_eq_getElem_cons (by omega)]
        rfl
      rw [hone'] at h1
      have hys : ys[j]? = some (ys[j]'(by omega)) := List.getElem?_eq_getElem (by omega)
      obtain ⟨y, hy1, _, hw⟩ := DataW.trod_int (hint j f hj) (h1.trans hys)
      refine ⟨y, ?_, hw⟩
      rw [← Go.Deep.add_add, hcell, hv]
      simpa using hy1
    refine ⟨some a, len, cap, fun i j => match w.cell? (a.add (i * fs.size + j)) with | some (.int _ y) => y | _ => 0, hcs, hl, by unfold maxLen at hm; exact hm, fun h => (by cases h), ?_, ?_⟩
    · by_cases h0 : len = 0
      · subst h0
        exact .inl (by simp [flat])
      · obtain ⟨y0, hy0, _⟩ := key 0 0 (by omega) hk
        have hsp : a.spot = none := by
          have hz : a.add (0 * fs.size + 0) = a := by simp [Addr.add]
          rw [hz] at hy0
          exact spot_of_cell hy0
        obtain ⟨b, off, sp⟩ := a
        dsimp only at hsp
        subst hsp
        have hadd : ∀ i, (⟨b, off, none⟩ : Addr).add i = ⟨b, off + i, none⟩ := fun i => by
          unfold Addr.add
          split
          · rename_i hi; subst hi; rfl
          · rfl
        refine .inr ⟨b, off, rfl, ?_, fun q hq => ?_⟩
        · rw [hadd] at hy0
          exact World.block_lt_of_cell? w _ hy0
        · rw [flat_length] at hq
          have hq1 : q / fs.size < len := (Nat.div_lt_iff_lt_mul hk).2 hq
          have hq2 : q % fs.size < fs.size := Nat.mod_lt _ hk
          obtain ⟨y, hy, _⟩ := key (q / fs.size) (q % fs.size) hq1 hq2
          have e : q / fs.size * fs.size + q % fs.size = q := by rw [Nat.mul_comm]; exact Nat.div_add_mod q fs.size
          have hg : (flat fs.size len fun i j => match w.cell? ((⟨b, off, none⟩ : Addr).add (i * fs.size + j)) with | some (.int _ y) => y | _ => 0).getD q undef = .int .i64 y := by
            unfold flat
            rw [List.getD_eq_getElem?_getD, List.getElem?_map, List.getElem?_range hq]
            simp only [Option.map_some, Option.getD_some]
            rw [hy]
          rw [hg]
          rw [e, hadd] at hy
          exact hy
    · intro i j hi hj
      obtain ⟨y, hy, hw⟩ := key i j hi hj
      simp only [hy]
      exact hw
end

theorem flat_spans (n : Nat) (f : Nat → Nat → Int) : spans ((List.range n).map fun i => (f i 0, f i 1)) = flat 2 n f := by
  have hl : (spans ((List.range n).map fun i => (f i 0, f i 1))).length = (flat 2 n f).length := by rw [spans_length, flat_length]; simp; omega
  refine List.ext_getElem hl fun q h1 h2 => ?_
  rw [flat_length] at h2
  have hk : q / 2 < ((List.range n).map fun i => (f i 0, f i 1)).length := by simp; omega
  obtain ⟨e1, e2⟩ := spans_get ((List.range n).map fun i => (f i 0, f i 1)) (q / 2) hk
  have el : los ((List.range n).map fun i => (f i 0, f i 1)) (q / 2) = f (q / 2) 0 := by
    simp only [List.length_map, List.length_range] at hk
    simp [los, List.getD, hk]
  have eh : his ((List.range n).map fun i => (f i 0, f i 1)) (q / 2) = f (q / 2) 1 := by
    simp only [List.length_map, List.length_range] at hk
    simp [his, List.getD, hk]
  have er : (flat 2 n f)[q] = .int .i64 (f (q / 2) (q % 2)) := by simp [flat]
  rw [er]
  rcases Nat.mod_two_eq_zero_or_one q with hm | hm
  · have hq : 2 * (q / 2) = q := by omega
    rw [hq, el] at e1
    rw [List.getD_eq_getElem?_getD, List.getElem?_eq_getElem h1] at e1
    rw [hm]
    exact e1
  · have hq : 2 * (q / 2) + 1 = q := by omega
    rw [hq, eh] at e2
    rw [List.getD_eq_getElem?_getD, List.getElem?_eq_getElem h1] at e2
    rw [hm]
    exact e2

/-- A struct of a span and of a slice of spans, opened. -/
theorem open_spanlog {H : Type} {enc : TypeId × Value → H} {P : Program} {r : Reach} {b0 base : Nat} {sp : Nat → Bool} {held : Bool} {w : World} {t e : TypeId} {f0 f1 g0 g1 : Field} {v : Value} {d : DataW H} {p : List MemPlace}
    (ht : P.underlying t = some (.struct #[f0, f1])) (hC : P.cellsOf t = 3) (o0 : f0.offset = 0) (o1 : f1.offset = 2)
    (h0 : P.underlying f0.type = some (.struct #[g0, g1])) (h1 : P.underlying f1.type = some (.slice e)) (he : P.underlying e = some (.struct #[g0, g1])) (k0 : P.underlying g0.type = some (.int .i64)) (k1 : P.underlying g1.type = some (.int .i64))
    (hone : oneCellFields P #[g0, g1] = true) (hCe : P.cellsOf e = 2) (c0 : P.cellsOf f0.type = 2) (c1 : P.cellsOf f1.type = 1)
    (hv : Value.okWide P w r b0 t v) (h : DataW.Trod enc P w base sp held t v d p) :
    ∃ (lo hi : Int) (a : Option Addr) (n cap : Nat) (ps : List (Int × Int)), v = .agg #[.int .i64 lo, .int .i64 hi, .slice a n cap] ∧ n = ps.length ∧ n ≤ cap ∧ cap ≤ 9223372036854775807 ∧ (a = none → ps = []) ∧ Row w w.heap.size a (spans ps) := by
  simp only [Value.okWide, ht] at hv
  obtain ⟨cs, rfl, hsz, _⟩ := hv
  obtain ⟨fuel, hf⟩ := h
  have hcl : (Value.agg cs).cells.toList = cs.toList := by simp [Value.cells]
  rw [hcl] at hf
  obtain ⟨y0, y1, n, _, hl, q0, q1⟩ := trod_struct2 ht hf
  rw [o0, c0] at q0
  rw [o1, c1] at q1
  obtain ⟨z0, z1, n', _, hl0, r0, r1⟩ := trod_struct2 h0 q0
  obtain ⟨u0, v0⟩ := hone_of hone 0 g0 rfl
  obtain ⟨u1, v1⟩ := hone_of hone 1 g1 rfl
  rw [u0, v0] at r0
  rw [u1, v1] at r1
  obtain ⟨lo, e0, _⟩ := DataW.trod_int k0 r0
  obtain ⟨hi, e1, _⟩ := DataW.trod_int k1 r1
  obtain ⟨a, len, cap, f, es, hlc, hcap, hnil, hrow, _⟩ := open_rows h1 he hone hCe (by show 0 < 2; omega) (by
    intro j f hj
    match j with
    | 0 => cases hj; exact k0
    | 1 => cases hj; exact k1
    | j + 2 => simp at hj) q1
  rw [hC] at hl
  obtain ⟨l⟩ := cs
  match l, hl with
  | [x0, x1, x2], _ =>
    simp at e0 e1 es
    subst e0 e1 es
    refine ⟨lo, hi, a, len, cap, (List.range len).map fun i => (f i 0, f i 1), rfl, by simp, hlc, hcap, fun h => by rw [hnil h]; rfl, ?_⟩
    rw [flat_spans]
    exact hrow

end Go.Proofs.Ytlbhnicengolfaa
