/-
  The reference of total: coefficient; the plain model of signs. The reference of total: signs. The reference of total: equation. The reference of total: squared, reach.
-/
import Derived.Test.YtlbhnicengolfaaDfsL
import Derived.Test.YtlbhnicengolfaaMade
import Derived.BigQuiet
/-! ## RefC: The reference of total: coefficient; the plain model of signs. -/
namespace Go.Proofs.Ytlbhnicengolfaa
open Go.RowKit
set_option linter.unusedVariables false
set_option linter.unusedSimpArgs false

theorem coef_any (a b c q : Int) (w : World) : Calls Try.prog 75 #[.agg #[.int .i64 a, .int .i64 b, .int .i64 c], .int .i64 q] w fun e w' => e = .returned (.int .i64 (coe (a, b, c) q)) ∧ Below w.heap.size w w' := by
  have hb : Below w.heap.size w (w.alloc (.cells #[.int .i64 a, .int .i64 b, .int .i64 c] 89)) := (Below.refl _ _).alloc (Nat.le_refl _) _
  by_cases h0 : q = a
  · have HC : Hid (coe (a, b, c) q = 1) := hide (by unfold coe; rw [if_pos (.inl h0)])
    have d : (q == a) = true := beq_iff_eq.2 h0
    clear h0
    go_enter Try.func75, Try.ntmps75
    go_wp2
    go_ret
    exact ⟨by rw [HC.out]; rfl, hb⟩
  · have d : (q == a) = false := beq_eq_false_iff_ne.2 h0
    by_cases h1 : q = b
    · have HC : Hid (coe (a, b, c) q = 1) := hide (by unfold coe; rw [if_pos (.inr h1)])
      have d1 : (q == b) = true := beq_iff_eq.2 h1
      clear h0 h1
      go_enter Try.func75, Try.ntmps75
      go_wp2
      go_ret
      exact ⟨by rw [HC.out]; rfl, hb⟩
    · have d1 : (q == b) = false := beq_eq_false_iff_ne.2 h1
      by_cases h2 : q = c
      · have HC : Hid (coe (a, b, c) q = -1) := hide (by unfold coe; rw [if_neg (by rintro (e | e); exact h0 e; exact h1 e), if_pos h2])
        have d2 : (q == c) = true := beq_iff_eq.2 h2
        clear h0 h1 h2
        go_enter Try.func75, Try.ntmps75
        go_wp2
        go_ret
        exact ⟨by rw [HC.out]; rfl, hb⟩
      · have HC : Hid (coe (a, b, c) q = 0) := hide (by unfold coe; rw [if_neg (by rintro (e | e); exact h0 e; exact h1 e), if_neg h2])
        have d2 : (q == c) = false := beq_eq_false_iff_ne.2 h2
        clear h0 h1 h2
        go_enter Try.func75, Try.ntmps75
        go_wp2
        go_ret
        exact ⟨by rw [HC.out]; rfl, hb⟩

/-! ### the plain model of signs -/
/-- How many triangles of a set, of the first k, belong to a quantity. -/
def rCnt (ts : List Tri) (set q : Nat) : Nat → Nat
  | 0 => 0
  | k + 1 => rCnt ts set q k + (if set.testBit k = true ∧ coe (tri ts k) (q : Int) ≠ 0 then 1 else 0)
/-- The first triangle of a set has sign 1; how many there are. -/
def rFst (T set : Nat) : Nat → List Int × Nat
  | 0 => (List.replicate T 0, 0)
  | k + 1 => if set.testBit k = true then (if (rFst T set k).2 = 0 then (rFst T set k).1.set k 1 else (rFst T set k).1, (rFst T set k).2 + 1) else rFst T set k
/-- One quantity of two triangles. -/
def rQ (ts : List Tri) (set i k : Nat) (o : List Int) (q : Nat) : List Int :=
  if o.getD i 0 ≠ 0 ∧ o.getD k 0 = 0 ∧ set.testBit k = true ∧ coe (tri ts i) (q : Int) ≠ 0 ∧ coe (tri ts k) (q : Int) ≠ 0 then o.set k (-(o.getD i 0) * coe (tri ts i) (q : Int) * coe (tri ts k) (q : Int)) else o
def rQs (ts : List Tri) (set i k : Nat) (o : List Int) : Nat → List Int
  | 0 => o
  | q + 1 => rQ ts set i k (rQs ts set i k o q) q
def rKs (ts : List Tri) (N set i : Nat) (o : List Int) : Nat → List Int
  | 0 => o
  | k + 1 => rQs ts set i k (rKs ts N set i o k) N
def rIs (ts : List Tri) (N T set : Nat) (o : List Int) : Nat → List Int
  | 0 => o
  | i + 1 => rKs ts N set i (rIs ts N T set o i) T
def rRs (ts : List Tri) (N T set : Nat) (o : List Int) : Nat → List Int
  | 0 => o
  | r + 1 => rIs ts N T set (rRs ts N T set o r) T
/-- What signs returns, for T triangles and N quantities. -/
def rSgn (ts : List Tri) (N set : Nat) : List Int × Bool :=
  if (List.range N).all (fun q => decide (rCnt ts set q ts.length ≤ 2)) = false then ([], false)
  else if (List.range ts.length).all (fun k => !(set.testBit k && (rRs ts N ts.length set (rFst ts.length set ts.length).1 ((rFst ts.length set ts.length).2 - 1)).getD k 0 == 0)) = false then ([], false)
  else (rRs ts N ts.length set (rFst ts.length set ts.length).1 ((rFst ts.length set ts.length).2 - 1), decide (0 < (rFst ts.length set ts.length).2))
def One3 (o : List Int) : Prop := ∀ i : Nat, o.getD i 0 = 1 ∨ o.getD i 0 = -1 ∨ o.getD i 0 = 0
theorem One3.set {o : List Int} (h : One3 o) (k : Nat) {v : Int} (hv : v = 1 ∨ v = -1 ∨ v = 0) : One3 (o.set k v) := fun i => by
  rw [List.getD_eq_getElem?_getD, List.getElem?_set]
  split
  · split
    · exact hv
    · exact .inr (.inr rfl)
  · rw [← List.getD_eq_getElem?_getD]; exact h i
theorem rFst_len (T set : Nat) : ∀ k, (rFst T set k).1.length = T
  | 0 => by simp [rFst]
  | k + 1 => by
    unfold rFst
    split
    · dsimp only
      split
      · rw [List.length_set]; exact rFst_len T set k
      · exact rFst_len T set k
    · exact rFst_len T set k
theorem rFst_one (T set : Nat) : ∀ k, One3 (rFst T set k).1
  | 0 => fun i => by
    unfold rFst
    dsimp only
    rw [List.getD_eq_getElem?_getD, List.getElem?_replicate]
    split <;> simp
  | k + 1 => by
    unfold rFst
    split
    · dsimp only
      split
      · exact (rFst_one T set k).set k (.inl rfl)
      · exact rFst_one T set k
    · exact rFst_one T set k
theorem rFst_cnt (T set : Nat) : ∀ k, (rFst T set k).2 ≤ k
  | 0 => by simp [rFst]
  | k + 1 => by
    have := rFst_cnt T set k
    unfold rFst
    split
    · dsimp only; omega
    · omega
theorem mul_one3 {a b : Int} (ha : a = 1 ∨ a = -1 ∨ a = 0) (hb : b = 1 ∨ b = -1 ∨ b = 0) : a * b = 1 ∨ a * b = -1 ∨ a * b = 0 := by
  rcases ha with h | h | h <;> rcases hb with h' | h' | h' <;> rw [h, h'] <;> simp
theorem neg_one3 {a : Int} (ha : a = 1 ∨ a = -1 ∨ a = 0) : -a = 1 ∨ -a = -1 ∨ -a = 0 := by
  rcases ha with h | h | h <;> rw [h] <;> simp
theorem rQ_ok {ts : List Tri} {set i k : Nat} {o : List Int} (h : One3 o) (q : Nat) : One3 (rQ ts set i k o q) ∧ (rQ ts set i k o q).length = o.length := by
  unfold rQ
  split
  · exact ⟨h.set k (mul_one3 (mul_one3 (neg_one3 (h i)) (coe_one _ _)) (coe_one _ _)), by rw [List.length_set]⟩
  · exact ⟨h, rfl⟩
theorem rQs_ok {ts : List Tri} {set i k : Nat} {o : List Int} (h : One3 o) : ∀ q, One3 (rQs ts set i k o q) ∧ (rQs ts set i k o q).length = o.length
  | 0 => ⟨h, rfl⟩
  | q + 1 => by
    have ih := rQs_ok (ts := ts) (set := set) (i := i) (k := k) h q
    have := rQ_ok (ts := ts) (set := set) (i := i) (k := k) ih.1 q
    exact ⟨this.1, this.2.trans ih.2⟩
theorem rKs_ok {ts : List Tri} {N set i : Nat} {o : List Int} (h : One3 o) : ∀ k, One3 (rKs ts N set i o k) ∧ (rKs ts N set i o k).length = o.length
  | 0 => ⟨h, rfl⟩
  | k + 1 => by
    have ih := rKs_ok (ts := ts) (N := N) (set := set) (i := i) h k
    have := rQs_ok (ts := ts) (set := set) (i := i) (k := k) ih.1 N
    exact ⟨this.1, this.2.trans ih.2⟩
theorem rIs_ok {ts : List Tri} {N T set : Nat} {o : List Int} (h : One3 o) : ∀ i, One3 (rIs ts N T set o i) ∧ (rIs ts N T set o i).length = o.length
  | 0 => ⟨h, rfl⟩
  | i + 1 => by
    have ih := rIs_ok (ts := ts) (N := N) (T := T) (set := set) h i
    have := rKs_ok (ts := ts) (N := N) (set := set) (i := i) ih.1 T
    exact ⟨this.1, this.2.trans ih.2⟩
theorem rRs_ok {ts : List Tri} {N T set : Nat} {o : List Int} (h : One3 o) : ∀ r, One3 (rRs ts N T set o r) ∧ (rRs ts N T set o r).length = o.length
  | 0 => ⟨h, rfl⟩
  | r + 1 => by
    have ih := rRs_ok (ts := ts) (N := N) (T := T) (set := set) h r
    have := rIs_ok (ts := ts) (N := N) (T := T) (set := set) ih.1 T
    exact ⟨this.1, this.2.trans ih.2⟩
/-- Where the loop over quantities ends early, nothing more happens. -/
theorem rQs_stop {ts : List Tri} {set i k : Nat} {o : List Int} {q : Nat} (h : ¬ ((rQs ts set i k o q).getD i 0 ≠ 0 ∧ (rQs ts set i k o q).getD k 0 = 0 ∧ set.testBit k = true)) : ∀ m, rQs ts set i k o (q + m) = rQs ts set i k o q
  | 0 => rfl
  | m + 1 => by
    have ih := rQs_stop h m
    show rQ ts set i k (rQs ts set i k o (q + m)) (q + m) = _
    rw [ih]
    unfold rQ
    rw [if_neg (fun hx => h ⟨hx.1, hx.2.1, hx.2.2.1⟩)]

end Go.Proofs.Ytlbhnicengolfaa

/-! ## RefS: The reference of total: signs. -/
namespace Go.Proofs.Ytlbhnicengolfaa
open Go.RowKit
set_option linter.unusedVariables false
set_option linter.unusedSimpArgs false

/-- While signs runs: the net at w.heap.size, the signs in the block behind it. -/
structure RgIn (w : World) (n : TNet) (sa ta : Option Addr) (sn sc tn tc : Nat) (o : List Int) (wr : World) : Prop where
  kn : Blk wr w.heap.size #[.slice sa sn sc, .slice ta tn tc] 35
  rs : Row wr w.heap.size sa (spans n.sp)
  rt : Row wr w.heap.size ta (tris n.ts)
  ko : Blk wr (w.heap.size + 1) (ints o).toArray 3
  be : Below w.heap.size w wr
section
variable {w : World} {n : TNet} {sa ta : Option Addr} {sn sc tn tc : Nat} {o : List Int} {wr W : World}
theorem RgIn.kept (h : RgIn w n sa ta sn sc tn tc o wr) (hb : Below wr.heap.size wr W) : RgIn w n sa ta sn sc tn tc o W :=
  ⟨h.kn.kept hb, h.rs.below hb (by have := h.kn.lt; omega), h.rt.below hb (by have := h.kn.lt; omega), h.ko.kept hb, h.be.trans (hb.mono h.be.size)⟩
theorem RgIn.set (h : RgIn w n sa ta sn sc tn tc o wr) (k : Nat) (v : Int) : RgIn w n sa ta sn sc tn tc (o.set k v) (wr.setCell ⟨w.heap.size + 1, k, none⟩ (.int .i64 v)) :=
  have hb : Below (w.heap.size + 1) wr (wr.setCell ⟨w.heap.size + 1, k, none⟩ (.int .i64 v)) := (Below.refl _ _).setCell (p := ⟨w.heap.size + 1, k, none⟩) (Nat.le_refl _) _
  ⟨h.kn.below hb (Nat.lt_succ_self _), h.rs.below hb (Nat.le_succ _), h.rt.below hb (Nat.le_succ _), by have := h.ko.set k (.int .i64 v); rw [ints_set] at this; exact this, h.be.setCell (p := ⟨w.heap.size + 1, k, none⟩) (Nat.le_succ _) _⟩
end

theorem ints_cellR {W : World} {b : Nat} {xs : List Int} {q : Nat} (h : Blk W b (ints xs).toArray 3) (hq : q < xs.length) : W.cell? ⟨b, q, none⟩ = some (.int .i64 (xs.getD q 0)) ∧ W.frozen? ⟨b, q, none⟩ = false := by
  refine ⟨?_, h.frozen q⟩
  rw [h.cell q]
  simp [ints, List.getD, hq]
def sgnPost (R : List Int × Bool) (tn : Nat) (w : World) (e : Ending) (w' : World) : Prop :=
  ∃ v, e = .returned (.tuple #[v, .bool R.2]) ∧ (R.2 = true → ∃ g, v = .slice (some ⟨g, 0, none⟩) tn tn ∧ w.heap.size ≤ g ∧ Blk w' g (ints R.1).toArray 3) ∧ Below w.heap.size w w'

set_option maxRecDepth 100000 in
set_option maxHeartbeats 8000000 in
theorem signs_any (n : TNet) (set : Nat) (sa ta : Option Addr) (sn sc tn tc : Nat) (w : World) (h : NetIn n sa ta sn tn tc w) (hs11 : sn ≤ 11) (ht5 : tn ≤ 5) (hset : set < 32) :
    Calls Try.prog 74 #[netV sa ta sn sc tn tc, .int .i64 (set : Int)] w fun e w' => sgnPost (rSgn n.ts sn set) tn w e w' := by
  have HNT := hide (And.intro h.hsn h.htn)
  have htc := h.htc
  obtain ⟨i0, hi, hz0, hz1, hz2⟩ := info_int
  have hmk : ∀ w, (Instr.makeSlice 38 (.int .i64 (tn : Int)) (.int .i64 (tn : Int))).run Try.prog w = .ok (.slice (some ⟨w.heap.size, 0, none⟩) tn tn) (w.alloc (.cells (ints (List.replicate tn 0)).toArray 3)) := fun w => by
    rw [← made_ints]
    exact run_make_row (P := Try.prog) 38 3 i0 _ under_ints hi hz0 hz1 rfl .i64 .i64 tn (by rw [hz2]; omega) (by omega) w
  have kn := Blk.new w #[.slice sa sn sc, .slice ta tn tc] 35
  have hb1 : Below w.heap.size w (w.alloc (.cells #[.slice sa sn sc, .slice ta tn tc] 35)) := (Below.refl _ _).alloc (Nat.le_refl _) _
  have hin0 : RgIn w n sa ta sn sc tn tc (List.replicate tn 0) ((w.alloc (.cells #[.slice sa sn sc, .slice ta tn tc] 35)).alloc (.cells (ints (List.replicate tn 0)).toArray 3)) :=
    ⟨kn.alloc _, (h.rs.below hb1 (Nat.le_refl _)).below ((Below.refl _ _).alloc (Nat.le_refl _) _) (by rw [sz1]; omega), (h.rt.below hb1 (Nat.le_refl _)).below ((Below.refl _ _).alloc (Nat.le_refl _) _) (by rw [sz1]; omega), Blk.newAt (by rw [sz1]) _ _, hb1.alloc (by rw [sz1]; omega) _⟩
  have HIN0 := hide hin0
  clear h hi hz0 hz1 hz2 kn hb1 hin0
  go_enter Try.func74, Try.ntmps74
  go_wp2_with fail
  generalize World.alloc (World.alloc w _) _ = V0 at *
  have HMK := hide hmk
  clear hmk
  obtain ⟨OB, hOB⟩ : ∃ OB, w.heap.size + 1 = OB := ⟨_, rfl⟩
  have HOB := hide hOB
  have HRS : Hid (rSgn n.ts sn set = if (List.range sn).all (fun q => decide (rCnt n.ts set q tn ≤ 2)) = false then ([], false)
    else if (List.range tn).all (fun k => !(set.testBit k && (rRs n.ts sn tn set (rFst tn set tn).1 ((rFst tn set tn).2 - 1)).getD k 0 == 0)) = false then ([], false)
    else (rRs n.ts sn tn set (rFst tn set tn).1 ((rFst tn set tn).2 - 1), decide (0 < (rFst tn set tn).2))) := hide (by rw [HNT.out.2]; rfl)
  clear hOB
  go_loopw [7] (fun ix wr => ∃ q : Nat, q ≤ sn ∧ ix = .int .i64 (q : Int) ∧ Hid (∀ p, p < q → rCnt n.ts set p tn ≤ 2) ∧ RgIn w n sa ta sn sc tn tc (List.replicate tn 0) wr) (fun ix _ => sn - (intOf ix).toNat)
  case atStart => exact ⟨0, Nat.zero_le _, rfl, hide (fun p hp => by omega), HIN0.out⟩
  case round =>
    clear HIN0
    obtain ⟨q, hq, rfl, HCN, hin⟩ := hrel
    have HIN := hide hin
    obtain ⟨n0, n1, _⟩ := hin.kn.two
    have ln := hin.kn.lt
    clear hin
    by_cases hlt : q < sn
    · go_wp2_with fail
      clear n0 n1 ln
      go_loopw [8, 9] (fun c ix wr => ∃ i : Nat, i ≤ tn ∧ ix = .int .i64 (i : Int) ∧ c = .int .i64 ((rCnt n.ts set q i : Nat) : Int) ∧ RgIn w n sa ta sn sc tn tc (List.replicate tn 0) wr) (fun _ ix _ => tn - (intOf ix).toNat)
      case atStart => exact ⟨0, Nat.zero_le _, rfl, rfl, HIN.out⟩
      case round =>
        clear HIN
        obtain ⟨i, hi, rfl, rfl, hin⟩ := hrel
        have HIN := hide hin
        obtain ⟨n0, n1, _⟩ := hin.kn.two
        have ln := hin.kn.lt
        have bit := bit_is ⟨set, hset⟩
        by_cases hit : i < tn
        · have bit := bit_is ⟨set, hset⟩ ⟨i, by omega⟩
          dsimp only at bit
          obtain ⟨tb, toff, hta, htb, htc'⟩ := hin.rt.tri (by have := HNT.out.2; omega)
          obtain ⟨t0, t1, t2⟩ := htc' i (by have := HNT.out.2; omega)
          have hcs : Hid (rCnt n.ts set q (i + 1) = rCnt n.ts set q i + (if set.testBit i = true ∧ coe (tri n.ts i) (q : Int) ≠ 0 then 1 else 0)) := hide rfl
          have hcb : Hid (rCnt n.ts set q i ≤ 5 * (i + 1)) := hide (by
            clear hcs
            have : ∀ k, rCnt n.ts set q k ≤ k := fun k => by
              induction k with
              | zero => simp [rCnt]
              | succ k ih => unfold rCnt; split <;> omega
            have := this i
            omega)
          have htl : tb < wr.heap.size := by omega
          clear hin htc'
          subst hta
          generalize tri n.ts i = t at *
          obtain ⟨a, b, c⟩ := t
          dsimp only at t0 t1 t2
          have hcb' := hcb.out
          generalize rCnt n.ts set q i = cn at *
          have wc : IntKind.i64.wrap ((cn : Int) + 1) = ((cn + 1 : Nat) : Int) := by rw [show ((cn + 1 : Nat) : Int) = (cn : Int) + 1 by omega]; exact IntWalk.i64_in _ (by omega)
          have ik : (i : Int) < tn := by omega
          cases hb : set.testBit i with
          | true =>
            rw [hb] at bit hcs
            clear hb
            go_wp2_with fail
            refine (coef_any a b c (q : Int) _).mono ?_
            rintro e W2 ⟨rfl, hb2⟩
            have HIN2 := hide (HIN.out.kept hb2)
            by_cases h0 : coe (a, b, c) (q : Int) = 0
            · have d0 : (coe (a, b, c) (q : Int) != 0) = false := by rw [h0]; rfl
              have HC2 : Hid (rCnt n.ts set q (i + 1) = cn) := hide (by rw [hcs.out, if_neg (fun h => h.2 h0)]; rfl)
              clear h0 hb2
              go_wp2_with fail
              exact ⟨⟨i + 1, by omega, by go_num, by rw [HC2.out], HIN2.out⟩, by simp [intOf]; omega⟩
            · have d0 : (coe (a, b, c) (q : Int) != 0) = true := by rw [bne_iff_ne]; exact h0
              have HC2 : Hid (rCnt n.ts set q (i + 1) = cn + 1) := hide (by rw [hcs.out, if_pos (by simpa using h0)])
              clear h0 hb2
              go_wp2_with fail
              exact ⟨⟨i + 1, by omega, by go_num, by rw [HC2.out]; simp, HIN2.out⟩, by simp [intOf]; omega⟩
          | false =>
            have HC2 : Hid (rCnt n.ts set q (i + 1) = cn) := hide (by rw [hcs.out, if_neg (fun h => by rw [hb] at h; cases h.1)]; rfl)
            rw [hb] at bit
            clear hb hcs
            go_wp2_with fail
            exact ⟨⟨i + 1, by omega, by go_num, by rw [HC2.out], HIN.out⟩, by simp [intOf]; omega⟩
        · have hin' : i = tn := by omega
          rw [hin']
          clear hin
          by_cases h2 : 2 < rCnt n.ts set q tn
          · have d2 : decide ((2 : Int) < ((rCnt n.ts set q tn : Nat) : Int)) = true := decide_eq_true (by omega)
            have d2' : decide (2 < rCnt n.ts set q tn) = true := decide_eq_true h2
            have HR : Hid (rSgn n.ts sn set = ([], false)) := hide (by
              rw [HRS.out, if_pos]
              rw [← Bool.not_eq_true, List.all_eq_true]
              intro hall
              have := hall q (List.mem_range.2 hlt)
              simp at this
              omega)
            clear hin' hit
            have hit : ¬ tn < tn := Nat.lt_irrefl _
            go_wp2_with fail
            go_ret2
            exact ⟨_, by rw [HR.out]; rfl, (fun h => by rw [HR.out] at h; cases h), HIN.out.be⟩
          · have d2 : decide ((2 : Int) < ((rCnt n.ts set q tn : Nat) : Int)) = false := decide_eq_false (by omega)
            have d2' : decide (2 < rCnt n.ts set q tn) = false := decide_eq_false h2
            have HCN2 : Hid (∀ p, p < q + 1 → rCnt n.ts set p tn ≤ 2) := hide (fun p hp => by
              rcases Nat.lt_or_ge p q with h | h
              · exact HCN.out p h
              · obtain rfl : p = q := by omega
                omega)
            clear hin' hit
            have hit : ¬ tn < tn := Nat.lt_irrefl _
            go_wp2_with fail
            exact ⟨⟨q + 1, by omega, by go_num, HCN2, HIN.out⟩, by simp [intOf]; omega⟩
    · go_wp2_with fail
      clear n0 n1 ln
      have HC1 : Hid ((List.range sn).all (fun q => decide (rCnt n.ts set q tn ≤ 2)) = true) := hide (by
        rw [List.all_eq_true]
        intro p hp
        exact decide_eq_true (HCN.out p (by have := List.mem_range.1 hp; omega)))
      clear HCN hlt hq
      go_loopw [10, 11] (fun c ix wr => ∃ k : Nat, k ≤ tn ∧ ix = .int .i64 (k : Int) ∧ c = .int .i64 (((rFst tn set k).2 : Nat) : Int) ∧ RgIn w n sa ta sn sc tn tc (rFst tn set k).1 wr) (fun _ ix _ => tn - (intOf ix).toNat)
      case atStart => exact ⟨0, Nat.zero_le _, rfl, rfl, HIN.out⟩
      case round =>
        clear HIN
        obtain ⟨k, hk, rfl, rfl, hin⟩ := hrel
        have HIN := hide hin
        obtain ⟨n0, n1, _⟩ := hin.kn.two
        have ln := hin.kn.lt
        by_cases hkt : k < tn
        · have bit := bit_is ⟨set, hset⟩ ⟨k, by omega⟩
          dsimp only at bit
          have HF : Hid (rFst tn set (k + 1) = if set.testBit k = true then (if (rFst tn set k).2 = 0 then (rFst tn set k).1.set k 1 else (rFst tn set k).1, (rFst tn set k).2 + 1) else rFst tn set k) := hide rfl
          have hcb := rFst_cnt tn set k
          have hfl := rFst_len tn set k
          have lo := hin.ko.lt
          have cf := hin.ko.frozen k
          have HOK := hide hfl
          clear hfl hin
          generalize rFst tn set k = F at *
          obtain ⟨o, c⟩ := F
          dsimp only at hcb lo cf HF HOK
          have wc : IntKind.i64.wrap ((c : Int) + 1) = ((c + 1 : Nat) : Int) := by rw [show ((c + 1 : Nat) : Int) = (c : Int) + 1 by omega]; exact IntWalk.i64_in _ (by omega)
          have ik : (k : Int) < tn := by omega
          have c0 : ∃ v, wr.cell? ⟨w.heap.size + 1, k, none⟩ = some v := ⟨_, (ints_cellR HIN.out.ko (q := k) (by rw [HOK.out]; exact hkt)).1⟩
          obtain ⟨cv, c0⟩ := c0
          cases hb : set.testBit k with
          | true =>
            rw [hb] at bit
            by_cases hc : c = 0
            · have HF2 : Hid (rFst tn set (k + 1) = (o.set k 1, c + 1)) := hide (by rw [HF.out, if_pos hb, if_pos hc])
              have d0 : ((c : Int) == 0) = true := by simp [hc]
              have HIN2 := hide (HIN.out.set k 1)
              clear hb HF
              have HC := hide hc
              clear hc
              go_wp2_with fail
              exact ⟨⟨k + 1, by omega, by go_num, by rw [HF2.out]; simp, by rw [HF2.out]; exact HIN2.out⟩, by simp [intOf]; omega⟩
            · have HF2 : Hid (rFst tn set (k + 1) = (o, c + 1)) := hide (by rw [HF.out, if_pos hb, if_neg hc])
              have d0 : ((c : Int) == 0) = false := beq_eq_false_iff_ne.2 (by omega)
              clear hb HF hc
              go_wp2_with fail
              exact ⟨⟨k + 1, by omega, by go_num, by rw [HF2.out]; simp, by rw [HF2.out]; exact HIN.out⟩, by simp [intOf]; omega⟩
          | false =>
            have HF2 : Hid (rFst tn set (k + 1) = (o, c)) := hide (by rw [HF.out, if_neg (by rw [hb]; simp)])
            rw [hb] at bit
            clear hb HF
            go_wp2_with fail
            exact ⟨⟨k + 1, by omega, by go_num, by rw [HF2.out], by rw [HF2.out]; exact HIN.out⟩, by simp [intOf]; omega⟩
        · have hkn : k = tn := by omega
          rw [hkn] at HIN ⊢
          have hcb := rFst_cnt tn set tn
          have HO3 := hide (rFst_one tn set tn)
          have HOL := hide (rFst_len tn set tn)
          clear hin hkn hkt
          generalize hF : rFst tn set tn = F at *
          have HF := hide hF
          clear hF
          obtain ⟨o0, cnt⟩ := F
          dsimp only at hcb
          have hkt : ¬ tn < tn := Nat.lt_irrefl _
          go_wp2_with fail
          clear n0 n1 ln hkt
          have hc5 : cnt ≤ 5 := by omega
          go_loopw [12] (fun ix wx => ∃ r : Nat, r ≤ cnt - 1 ∧ ix = .int .i64 ((r : Int) + 1) ∧ RgIn w n sa ta sn sc tn tc (rRs n.ts sn tn set o0 r) wx) (fun ix _ => cnt - (intOf ix).toNat)
          case atStart => exact ⟨0, Nat.zero_le _, rfl, HIN.out⟩
          case round =>
            clear HIN
            obtain ⟨r, hr, rfl, hin⟩ := hrel
            have HIN := hide hin
            have hlo := (rRs_ok (ts := n.ts) (N := sn) (T := tn) (set := set) HO3.out r)
            have HLO := hide (And.intro hlo.1 (hlo.2.trans HOL.out))
            have HRN : Hid (rRs n.ts sn tn set o0 (r + 1) = rIs n.ts sn tn set (rRs n.ts sn tn set o0 r) tn) := hide rfl
            clear hlo hin
            by_cases hrc : r + 1 < cnt
            · have dr : decide ((r : Int) + 1 < (cnt : Int)) = true := decide_eq_true (by omega)
              generalize rRs n.ts sn tn set o0 r = O at *
              go_wp2_with fail
              go_loopw [13] (fun ix wx => ∃ i : Nat, i ≤ tn ∧ ix = .int .i64 (i : Int) ∧ RgIn w n sa ta sn sc tn tc (rIs n.ts sn tn set O i) wx) (fun ix _ => tn - (intOf ix).toNat)
              case atStart => exact ⟨0, Nat.zero_le _, rfl, HIN.out⟩
              case round =>
                clear HIN
                obtain ⟨i, hi, rfl, hin⟩ := hrel
                have HIN := hide hin
                obtain ⟨n0, n1, _⟩ := hin.kn.two
                have ln := hin.kn.lt
                have hli := (rIs_ok (ts := n.ts) (N := sn) (T := tn) (set := set) HLO.out.1 i)
                have HLI := hide (And.intro hli.1 (hli.2.trans HLO.out.2))
                have HIN1 : Hid (rIs n.ts sn tn set O (i + 1) = rKs n.ts sn set i (rIs n.ts sn tn set O i) tn) := hide rfl
                clear hli hin
                by_cases hit : i < tn
                · generalize rIs n.ts sn tn set O i = O2 at *
                  go_wp2_with fail
                  clear n0 n1 ln
                  go_loopw [14] (fun ix wx => ∃ k : Nat, k ≤ tn ∧ ix = .int .i64 (k : Int) ∧ RgIn w n sa ta sn sc tn tc (rKs n.ts sn set i O2 k) wx) (fun ix _ => tn - (intOf ix).toNat)
                  case atStart => exact ⟨0, Nat.zero_le _, rfl, HIN.out⟩
                  case round =>
                    clear HIN
                    obtain ⟨k, hk, rfl, hin⟩ := hrel
                    have HIN := hide hin
                    obtain ⟨n0, n1, _⟩ := hin.kn.two
                    have ln := hin.kn.lt
                    have hlk := (rKs_ok (ts := n.ts) (N := sn) (set := set) (i := i) HLI.out.1 k)
                    have HLK := hide (And.intro hlk.1 (hlk.2.trans HLI.out.2))
                    have HKN : Hid (rKs n.ts sn set i O2 (k + 1) = rQs n.ts set i k (rKs n.ts sn set i O2 k) sn) := hide rfl
                    clear hlk hin
                    by_cases hkt : k < tn
                    · have bit := bit_is ⟨set, hset⟩ ⟨k, by omega⟩
                      dsimp only at bit
                      generalize rKs n.ts sn set i O2 k = O3 at *
                      go_wp2_with fail
                      clear n0 n1 ln
                      go_loopw [15] (fun ix wx => ∃ q : Nat, q ≤ sn ∧ ix = .int .i64 (q : Int) ∧ RgIn w n sa ta sn sc tn tc (rQs n.ts set i k O3 q) wx) (fun ix _ => sn - (intOf ix).toNat)
                      case atStart => exact ⟨0, Nat.zero_le _, rfl, HIN.out⟩
                      case round =>
                        clear HIN
                        obtain ⟨q, hq, rfl, hin⟩ := hrel
                        have HIN := hide hin
                        obtain ⟨n0, n1, _⟩ := hin.kn.two
                        have ln := hin.kn.lt
                        have hlq := (rQs_ok (ts := n.ts) (set := set) (i := i) (k := k) HLK.out.1 q)
                        have HLQ := hide (And.intro hlq.1 (hlq.2.trans HLK.out.2))
                        have HQN : Hid (rQs n.ts set i k O3 (q + 1) = rQ n.ts set i k (rQs n.ts set i k O3 q) q) := hide rfl
                        have HST : Hid (¬ ((rQs n.ts set i k O3 q).getD i 0 ≠ 0 ∧ (rQs n.ts set i k O3 q).getD k 0 = 0 ∧ set.testBit k = true) → rKs n.ts sn set i O2 (k + 1) = rQs n.ts set i k O3 q) := hide (fun hx => by
                          rw [HKN.out]
                          have := rQs_stop hx (sn - q)
                          rwa [show q + (sn - q) = sn by omega] at this)
                        have HEND : Hid (q = sn → rKs n.ts sn set i O2 (k + 1) = rQs n.ts set i k O3 q) := hide (fun e => by rw [HKN.out, e])
                        have hone := hlq.1
                        clear hlq hin
                        obtain ⟨ci, fi⟩ := ints_cellR HIN.out.ko (q := i) (by rw [HLQ.out.2]; exact hit)
                        obtain ⟨ck, fk⟩ := ints_cellR HIN.out.ko (q := k) (by rw [HLQ.out.2]; exact hkt)
                        have lo := HIN.out.ko.lt
                        obtain ⟨tb, toff, hta, htb, htc'⟩ := HIN.out.rt.tri (by have := HNT.out.2; omega)
                        obtain ⟨a0, a1, a2⟩ := htc' i (by have := HNT.out.2; omega)
                        obtain ⟨b0, b1, b2⟩ := htc' k (by have := HNT.out.2; omega)
                        have htl : tb < wr.heap.size := by omega
                        have hoi := hone i
                        have hok := hone k
                        have HRQ : Hid (rQ n.ts set i k (rQs n.ts set i k O3 q) q = if (rQs n.ts set i k O3 q).getD i 0 ≠ 0 ∧ (rQs n.ts set i k O3 q).getD k 0 = 0 ∧ set.testBit k = true ∧ coe (tri n.ts i) (q : Int) ≠ 0 ∧ coe (tri n.ts k) (q : Int) ≠ 0 then (rQs n.ts set i k O3 q).set k (-((rQs n.ts set i k O3 q).getD i 0) * coe (tri n.ts i) (q : Int) * coe (tri n.ts k) (q : Int)) else rQs n.ts set i k O3 q) := hide rfl
                        clear htc' hone
                        subst hta
                        have ii : (i : Int) < tn := by omega
                        have ik : (k : Int) < tn := by omega
                        generalize rQs n.ts set i k O3 q = O4 at *
                        generalize hgi : O4.getD i 0 = oi at *
                        have HGI := hide hgi
                        clear hgi
                        generalize O4.getD k 0 = ok at *
                        by_cases hqs : q < sn
                        · by_cases h1 : oi = 0
                          · have d1 : (oi != 0) = false := by rw [h1]; rfl
                            have HEX : Hid (RgIn w n sa (some ⟨tb, toff, none⟩) sn sc tn tc (rKs n.ts sn set i O2 (k + 1)) wr) := hide (by rw [HST.out (fun h => h.1 h1)]; exact HIN.out)
                            clear h1
                            go_wp2_with fail
                            exact ⟨⟨k + 1, by omega, by go_num, HEX.out⟩, by simp [intOf]; omega⟩
                          · have d1 : (oi != 0) = true := by rw [bne_iff_ne]; exact h1
                            by_cases h2 : ok = 0
                            · have d2 : (ok == 0) = true := beq_iff_eq.2 h2
                              cases hb : set.testBit k with
                              | false =>
                                have HEX : Hid (RgIn w n sa (some ⟨tb, toff, none⟩) sn sc tn tc (rKs n.ts sn set i O2 (k + 1)) wr) := hide (by rw [HST.out (fun h => by rw [hb] at h; cases h.2.2)]; exact HIN.out)
                                rw [hb] at bit
                                clear h1 h2 hb
                                go_wp2_with fail
                                exact ⟨⟨k + 1, by omega, by go_num, HEX.out⟩, by simp [intOf]; omega⟩
                              | true =>
                                have HC := hide (And.intro h1 (And.intro h2 hb))
                                rw [hb] at bit
                                clear h1 h2 hb
                                generalize tri n.ts i = ti at *
                                generalize tri n.ts k = tk at *
                                obtain ⟨xa, xb, xc⟩ := ti
                                obtain ⟨ya, yb, yc⟩ := tk
                                dsimp only at a0 a1 a2 b0 b1 b2
                                have HW1 := hide (fun X : Ext wr => Ext.call (coef_any xa xb xc (q : Int) X.w))
                                have HW2 := hide (fun X : Ext wr => Ext.call (coef_any ya yb yc (q : Int) X.w))
                                have hca := coe_one (xa, xb, xc) (q : Int)
                                have hcb := coe_one (ya, yb, yc) (q : Int)
                                generalize coe (xa, xb, xc) (q : Int) = ca at *
                                generalize coe (ya, yb, yc) (q : Int) = cb at *
                                have hX := @Ext.cell wr
                                go_wp2_with fail
                                refine wp_region_all (Ext.w (W := wr)) (by kernel_rfl) (by kernel_rfl) (Ext.start wr) ?_
                                repeat (first | go_big_quiet_skip | quiet_step (first | (go_at_call 75; first | with_reducible exact HW1.out _ | with_reducible exact HW2.out _)))
                                refine wpQuiet_nil ?_
                                intro X
                                have HIN2 := hide (HIN.out.kept X.below)
                                obtain ⟨ci2, _⟩ := ints_cellR HIN2.out.ko (q := i) (by rw [HLQ.out.2]; exact hit)
                                rw [HGI.out] at ci2
                                have lo2 := HIN2.out.ko.lt
                                have fk2 := HIN2.out.ko.frozen k
                                have ck2 : ∃ v, X.w.cell? ⟨w.heap.size + 1, k, none⟩ = some v := ⟨_, (ints_cellR HIN2.out.ko (q := k) (by rw [HLQ.out.2]; exact hkt)).1⟩
                                obtain ⟨cv, ck2⟩ := ck2
                                have p1 := neg_one3 hoi
                                have p2 := mul_one3 p1 hca
                                have p3 := mul_one3 p2 hcb
                                have w1 : IntKind.i64.wrap (-oi) = -oi := IntWalk.i64_in _ (by omega)
                                have w2 : IntKind.i64.wrap (-oi * ca) = -oi * ca := IntWalk.i64_in _ (by generalize -oi * ca = z at *; omega)
                                have w3 : IntKind.i64.wrap (-oi * ca * cb) = -oi * ca * cb := IntWalk.i64_in _ (by generalize -oi * ca * cb = z at *; omega)
                                clear p1 p2 p3
                                by_cases hz : ca ≠ 0 ∧ cb ≠ 0
                                · have da : (ca != 0) = true := by rw [bne_iff_ne]; exact hz.1
                                  have db : (cb != 0) = true := by rw [bne_iff_ne]; exact hz.2
                                  have HIN3 := hide (HIN2.out.set k (-oi * ca * cb))
                                  have HNX : Hid (rQs n.ts set i k O3 (q + 1) = O4.set k (-oi * ca * cb)) := hide (by rw [HQN.out, HRQ.out, if_pos ⟨HC.out.1, HC.out.2.1, HC.out.2.2, hz.1, hz.2⟩])
                                  clear hz hoi hok hca hcb
                                  go_wp2_with fail
                                  exact ⟨⟨q + 1, by omega, by go_num, by rw [HNX.out]; exact HIN3.out⟩, by simp [intOf]; omega⟩
                                · have HNX : Hid (rQs n.ts set i k O3 (q + 1) = O4) := hide (by rw [HQN.out, HRQ.out, if_neg (fun h => hz ⟨h.2.2.2.1, h.2.2.2.2⟩)])
                                  by_cases hz1 : ca = 0
                                  · have da : (ca != 0) = false := by rw [hz1]; rfl
                                    clear hz hz1 hoi hok hca hcb
                                    go_wp2_with fail
                                    exact ⟨⟨q + 1, by omega, by go_num, by rw [HNX.out]; exact HIN2.out⟩, by simp [intOf]; omega⟩
                                  · have da : (ca != 0) = true := by rw [bne_iff_ne]; exact hz1
                                    have hz2 : cb = 0 := Classical.byContradiction fun h => hz ⟨hz1, h⟩
                                    have db : (cb != 0) = false := by rw [hz2]; rfl
                                    clear hz hz1 hz2 hoi hok hca hcb
                                    go_wp2_with fail
                                    exact ⟨⟨q + 1, by omega, by go_num, by rw [HNX.out]; exact HIN2.out⟩, by simp [intOf]; omega⟩
                            · have d2 : (ok == 0) = false := beq_eq_false_iff_ne.2 h2
                              have HEX : Hid (RgIn w n sa (some ⟨tb, toff, none⟩) sn sc tn tc (rKs n.ts sn set i O2 (k + 1)) wr) := hide (by rw [HST.out (fun h => h2 h.2.1)]; exact HIN.out)
                              clear h1 h2
                              go_wp2_with fail
                              exact ⟨⟨k + 1, by omega, by go_num, HEX.out⟩, by simp [intOf]; omega⟩
                        · have HEX : Hid (RgIn w n sa (some ⟨tb, toff, none⟩) sn sc tn tc (rKs n.ts sn set i O2 (k + 1)) wr) := hide (by rw [HEND.out (by omega)]; exact HIN.out)
                          go_wp2_with fail
                          exact ⟨⟨k + 1, by omega, by go_num, HEX.out⟩, by simp [intOf]; omega⟩
                    · have hke : k = tn := by omega
                      have HEX : Hid (RgIn w n sa ta sn sc tn tc (rIs n.ts sn tn set O (i + 1)) wr) := hide (by have hh := HIN.out; rw [hke] at hh; rw [HIN1.out]; exact hh)
                      clear hke
                      go_wp2_with fail
                      exact ⟨⟨i + 1, by omega, by go_num, HEX.out⟩, by simp [intOf]; omega⟩
                · have hie : i = tn := by omega
                  have HEX : Hid (RgIn w n sa ta sn sc tn tc (rRs n.ts sn tn set o0 (r + 1)) wr) := hide (by have hh := HIN.out; rw [hie] at hh; rw [HRN.out]; exact hh)
                  clear hie
                  go_wp2_with fail
                  exact ⟨⟨r + 1, by omega, by go_num, HEX.out⟩, by simp [intOf]; omega⟩
            · have dr : decide ((r : Int) + 1 < (cnt : Int)) = false := decide_eq_false (by omega)
              have hre : r = cnt - 1 := by omega
              rw [hre] at HIN HLO
              go_wp2_with fail
              generalize hO : rRs n.ts sn tn set o0 (cnt - 1) = O at *
              have HO := hide hO
              clear hO hre dr hrc hr
              go_loopw [18] (fun ix wx => ∃ k : Nat, k ≤ tn ∧ ix = .int .i64 (k : Int) ∧ Hid (∀ p, p < k → ¬ (set.testBit p = true ∧ O.getD p 0 = 0)) ∧ RgIn w n sa ta sn sc tn tc O wx) (fun ix _ => tn - (intOf ix).toNat)
              case atStart => exact ⟨0, Nat.zero_le _, rfl, hide (fun p hp => by omega), HIN.out⟩
              case round =>
                clear HIN
                obtain ⟨k, hk, rfl, HNO, hin⟩ := hrel
                have HIN := hide hin
                obtain ⟨n0, n1, _⟩ := hin.kn.two
                have ln := hin.kn.lt
                clear hin
                by_cases hkt : k < tn
                · have bit := bit_is ⟨set, hset⟩ ⟨k, by omega⟩
                  dsimp only at bit
                  obtain ⟨ck, fk⟩ := ints_cellR HIN.out.ko (q := k) (by rw [HLO.out.2]; exact hkt)
                  have lo := HIN.out.ko.lt
                  have ik : (k : Int) < tn := by omega
                  generalize hok : O.getD k 0 = ok at *
                  have HOKK := hide hok
                  clear hok
                  cases hb : set.testBit k with
                  | true =>
                    have HB := hide hb
                    rw [hb] at bit
                    clear hb
                    by_cases h0 : ok = 0
                    · have d0 : (ok == 0) = true := beq_iff_eq.2 h0
                      have HR : Hid (rSgn n.ts sn set = ([], false)) := hide (by
                        rw [HRS.out, if_neg (by rw [HC1.out]; simp), if_pos]
                        rw [← Bool.not_eq_true, List.all_eq_true]
                        intro hall
                        have := hall k (List.mem_range.2 hkt)
                        rw [HOKK.out, HB.out, h0] at this
                        simp at this)
                      clear h0
                      go_wp2_with fail
                      go_ret2
                      exact ⟨_, by rw [HR.out]; rfl, (fun h => by rw [HR.out] at h; cases h), HIN.out.be⟩
                    · have d0 : (ok == 0) = false := beq_eq_false_iff_ne.2 h0
                      have HNO2 : Hid (∀ p, p < k + 1 → ¬ (set.testBit p = true ∧ O.getD p 0 = 0)) := hide (fun p hp hx => by
                        rcases Nat.lt_or_ge p k with h | h
                        · exact HNO.out p h hx
                        · obtain rfl : p = k := by omega
                          exact h0 (HOKK.out.symm.trans hx.2))
                      clear h0
                      go_wp2_with fail
                      exact ⟨⟨k + 1, by omega, by go_num, HNO2, HIN.out⟩, by simp [intOf]; omega⟩
                  | false =>
                    have HNO2 : Hid (∀ p, p < k + 1 → ¬ (set.testBit p = true ∧ O.getD p 0 = 0)) := hide (fun p hp hx => by
                      rcases Nat.lt_or_ge p k with h | h
                      · exact HNO.out p h hx
                      · obtain rfl : p = k := by omega
                        rw [hb] at hx
                        cases hx.1)
                    rw [hb] at bit
                    clear hb
                    go_wp2_with fail
                    exact ⟨⟨k + 1, by omega, by go_num, HNO2, HIN.out⟩, by simp [intOf]; omega⟩
                · have hke : k = tn := by omega
                  have HR : Hid (rSgn n.ts sn set = (O, decide (0 < cnt))) := hide (by
                    rw [HRS.out, if_neg (by rw [HC1.out]; simp), if_neg]
                    intro hx
                    rw [← Bool.not_eq_true, List.all_eq_true] at hx
                    refine hx fun p hp => ?_
                    have := HNO.out p (by have := List.mem_range.1 hp; omega)
                    cases hb : set.testBit p with
                    | false => rfl
                    | true =>
                      have : O.getD p 0 ≠ 0 := fun e => this ⟨hb, e⟩
                      simp only [Bool.true_and, Bool.not_eq_true']
                      exact beq_eq_false_iff_ne.2 this)
                  clear hke
                  go_wp2_with fail
                  go_ret2
                  refine ⟨_, by rw [HR.out]; simp, fun h => ⟨w.heap.size + 1, rfl, by omega, by rw [HR.out]; exact HIN.out.ko⟩, HIN.out.be⟩

end Go.Proofs.Ytlbhnicengolfaa

/-! ## RefE: The reference of total: equation. -/
namespace Go.Proofs.Ytlbhnicengolfaa
open Go.RowKit
set_option linter.unusedVariables false
set_option linter.unusedSimpArgs false

/-- The sum at a quantity over the first k triangles. -/
def eSum (ts : List Tri) (S : List Int) (q : Nat) : Nat → Int
  | 0 => 0
  | k + 1 => eSum ts S q k + S.getD k 0 * coe (tri ts k) (q : Int)
def eFst (ts : List Tri) (S : List Int) (T : Nat) : Nat → Int
  | 0 => 0
  | q + 1 => if eFst ts S T q = 0 then eSum ts S q T else eFst ts S T q
/-- What equation returns. -/
def rEq (ts : List Tri) (N set : Nat) : List Int × Bool :=
  if (rSgn ts N set).2 = false then ([], false) else ((List.range N).map fun q => eSum ts (rSgn ts N set).1 q ts.length * eFst ts (rSgn ts N set).1 ts.length N, true)
theorem eSum_B {ts : List Tri} {S : List Int} (h : One3 S) (q : Nat) : ∀ k : Nat, -(k : Int) ≤ eSum ts S q k ∧ eSum ts S q k ≤ (k : Int)
  | 0 => by simp [eSum]
  | k + 1 => by
    have ih := eSum_B (ts := ts) h q k
    have := mul_one3 (h k) (coe_one (tri ts k) (q : Int))
    unfold eSum
    generalize S.getD k 0 * coe (tri ts k) (q : Int) = z at *
    omega
theorem eFst_B {ts : List Tri} {S : List Int} (h : One3 S) (T : Nat) : ∀ q : Nat, -(T : Int) ≤ eFst ts S T q ∧ eFst ts S T q ≤ (T : Int)
  | 0 => by simp [eFst]
  | q + 1 => by
    have ih := eFst_B (ts := ts) h T q
    have := eSum_B (ts := ts) h q T
    unfold eFst
    split <;> omega
theorem rSgn_ok {ts : List Tri} {N set : Nat} (h : (rSgn ts N set).2 = true) : One3 (rSgn ts N set).1 ∧ (rSgn ts N set).1.length = ts.length := by
  unfold rSgn at h ⊢
  split at h
  · cases h
  · rename_i h1
    split at h
    · cases h
    · rename_i h2
      rw [if_neg h1, if_neg h2]
      have := rRs_ok (ts := ts) (N := N) (T := ts.length) (set := set) (rFst_one ts.length set ts.length) ((rFst ts.length set ts.length).2 - 1)
      exact ⟨this.1, this.2.trans (rFst_len _ _ _)⟩

theorem set_getDR {α : Type} (L : List α) (o i : Nat) (v d : α) (ho : o < L.length) : (L.set o v).getD i d = if i = o then v else L.getD i d := by
  rw [List.getD_eq_getElem?_getD, List.getElem?_set]
  by_cases e : o = i
  · subst e; rw [if_pos rfl, if_pos ho, if_pos rfl]; rfl
  · rw [if_neg e, if_neg (fun h => e h.symm), ← List.getD_eq_getElem?_getD]
structure QIn (w : World) (n : TNet) (sa ta : Option Addr) (sn sc tn tc g eb : Nat) (S o : List Int) (wr : World) : Prop where
  kn : Blk wr w.heap.size #[.slice sa sn sc, .slice ta tn tc] 35
  rs : Row wr w.heap.size sa (spans n.sp)
  rt : Row wr w.heap.size ta (tris n.ts)
  ks : Blk wr g (ints S).toArray 3
  ko : Blk wr eb (ints o).toArray 3
  be : Below w.heap.size w wr
  hg : g < eb
  hb : w.heap.size < eb
section
variable {w : World} {n : TNet} {sa ta : Option Addr} {sn sc tn tc g eb : Nat} {S o : List Int} {wr W : World}
theorem QIn.kept (h : QIn w n sa ta sn sc tn tc g eb S o wr) (hb : Below wr.heap.size wr W) : QIn w n sa ta sn sc tn tc g eb S o W :=
  ⟨h.kn.kept hb, h.rs.below hb (by have := h.kn.lt; omega), h.rt.below hb (by have := h.kn.lt; omega), h.ks.kept hb, h.ko.kept hb, h.be.trans (hb.mono h.be.size), h.hg, h.hb⟩
theorem QIn.set (h : QIn w n sa ta sn sc tn tc g eb S o wr) (k : Nat) (v : Int) : QIn w n sa ta sn sc tn tc g eb S (o.set k v) (wr.setCell ⟨eb, k, none⟩ (.int .i64 v)) :=
  have hb : Below eb wr (wr.setCell ⟨eb, k, none⟩ (.int .i64 v)) := (Below.refl _ _).setCell (p := ⟨eb, k, none⟩) (Nat.le_refl _) _
  ⟨h.kn.below hb h.hb, h.rs.below hb (Nat.le_of_lt h.hb), h.rt.below hb (Nat.le_of_lt h.hb), h.ks.below hb h.hg, by have := h.ko.set k (.int .i64 v); rw [ints_set] at this; exact this, h.be.setCell (p := ⟨eb, k, none⟩) (Nat.le_of_lt h.hb) _, h.hg, h.hb⟩
end

set_option maxRecDepth 100000 in
set_option maxHeartbeats 8000000 in
theorem refEq_any (n : TNet) (set : Nat) (sa ta : Option Addr) (sn sc tn tc : Nat) (w : World) (h : NetIn n sa ta sn tn tc w) (hs11 : sn ≤ 11) (ht5 : tn ≤ 5) (hset : set < 32) :
    Calls Try.prog 54 #[netV sa ta sn sc tn tc, .int .i64 (set : Int)] w fun e w' => sgnPost (rEq n.ts sn set) sn w e w' := by
  have HNT := hide (And.intro h.hsn h.htn)
  obtain ⟨i0, hi, hz0, hz1, hz2⟩ := info_int
  have hmk : ∀ w, (Instr.makeSlice 38 (.int .i64 (sn : Int)) (.int .i64 (sn : Int))).run Try.prog w = .ok (.slice (some ⟨w.heap.size, 0, none⟩) sn sn) (w.alloc (.cells (ints (List.replicate sn 0)).toArray 3)) := fun w => by
    rw [← made_ints]
    exact run_make_row (P := Try.prog) 38 3 i0 _ under_ints hi hz0 hz1 rfl .i64 .i64 sn (by rw [hz2]; omega) (by omega) w
  have kn := Blk.new w #[.slice sa sn sc, .slice ta tn tc] 35
  have hb1 : Below w.heap.size w (w.alloc (.cells #[.slice sa sn sc, .slice ta tn tc] 35)) := (Below.refl _ _).alloc (Nat.le_refl _) _
  have HSG := hide (signs_any n set sa ta sn sc tn tc _ (h.below hb1) hs11 ht5 hset)
  have HH := hide h
  have HR : Hid (rEq n.ts sn set = if (rSgn n.ts sn set).2 = false then ([], false) else ((List.range sn).map fun q => eSum n.ts (rSgn n.ts sn set).1 q n.ts.length * eFst n.ts (rSgn n.ts sn set).1 n.ts.length sn, true)) := hide rfl
  have HRO := hide (rSgn_ok (ts := n.ts) (N := sn) (set := set))
  obtain ⟨n0, n1, _⟩ := kn.two
  have ln := kn.lt
  clear h hi hz0 hz1 hz2
  go_enter Try.func54, Try.ntmps54
  go_wp2_with fail
  refine HSG.out.mono ?_
  rintro e W2 ⟨v, rfl, hv, hb2⟩
  have kn2 := kn.kept hb2
  have hB2 := hb1.trans (hb2.mono hb1.size)
  clear HSG kn n0 n1 ln hb1
  generalize hRS : rSgn n.ts sn set = RS at *
  clear hRS
  obtain ⟨S, b⟩ := RS
  dsimp only at hv ⊢
  obtain ⟨n0, n1, _⟩ := kn2.two
  have ln := kn2.lt
  cases b with
  | false =>
    have HR2 : Hid (rEq n.ts sn set = ([], false)) := hide (by rw [HR.out]; rfl)
    clear HR hv hmk
    go_wp2_with fail
    go_ret2
    exact ⟨_, by rw [HR2.out]; rfl, (fun h => by rw [HR2.out] at h; cases h), hB2⟩
  | true =>
    obtain ⟨g, rfl, hg, hkg⟩ := hv rfl
    have HO := hide (HRO.out rfl)
    have HKG := hide hkg
    clear hv hkg HRO
    go_wp2_with fail
    clear n0 n1 ln
    have HMK := hide hmk
    clear hmk
    have hgl := HKG.out.lt
    have hkl := kn2.lt
    obtain ⟨eb, heb⟩ : ∃ eb, W2.heap.size = eb := ⟨_, rfl⟩
    have hq0 : QIn w n sa ta sn sc tn tc g eb S (upd (fun p => eSum n.ts S p tn) (List.replicate sn 0) 0) (W2.alloc (.cells (ints (List.replicate sn 0)).toArray 3)) := by
      rw [upd_zero]
      have hb3 : Below W2.heap.size W2 (W2.alloc (.cells (ints (List.replicate sn 0)).toArray 3)) := (Below.refl _ _).alloc (Nat.le_refl _) _
      have hh := HH.out
      exact ⟨kn2.alloc _, (hh.rs.below hB2 (Nat.le_refl _)).below hb3 hB2.size, (hh.rt.below hB2 (Nat.le_refl _)).below hb3 hB2.size, HKG.out.alloc _, by rw [← heb]; exact Blk.new _ _ _, hB2.trans (hb3.mono hB2.size), by omega, by omega⟩
    have HQ0 := hide hq0
    rw [heb] at *
    clear hq0 kn2 hB2 hb2 HH HKG hgl hkl
    generalize World.alloc W2 _ = V0 at *
    have hSl : Hid (S.length = tn) := hide (by have := HO.out.2; rw [HNT.out.2]; exact this)
    go_loopw [9, 10] (fun f ix wr => ∃ q : Nat, q ≤ sn ∧ ix = .int .i64 (q : Int) ∧ f = .int .i64 (eFst n.ts S tn q) ∧ QIn w n sa ta sn sc tn tc g eb S (upd (fun p => eSum n.ts S p tn) (List.replicate sn 0) q) wr) (fun _ ix _ => sn - (intOf ix).toNat)
    case atStart => exact ⟨0, Nat.zero_le _, rfl, rfl, HQ0.out⟩
    case round =>
      clear HQ0
      obtain ⟨q, hq, rfl, rfl, hin⟩ := hrel
      have HIN := hide hin
      obtain ⟨n0, n1, _⟩ := hin.kn.two
      have ln := hin.kn.lt
      clear hin
      by_cases hqs : q < sn
      · have hlen : (upd (fun p => eSum n.ts S p tn) (List.replicate sn 0) q).length = sn := by rw [upd_len _ _ (by simp; omega)]; simp
        have hat : (upd (fun p => eSum n.ts S p tn) (List.replicate sn 0) q).getD q 0 = 0 := by
          rw [upd_at _ _ _ _ (by simpa using hqs), List.getD_eq_getElem?_getD, List.getElem?_replicate]
          split <;> rfl
        have HNX : Hid ((upd (fun p => eSum n.ts S p tn) (List.replicate sn 0) q).set q (eSum n.ts S q tn) = upd (fun p => eSum n.ts S p tn) (List.replicate sn 0) (q + 1)) := hide (upd_set (fun p => eSum n.ts S p tn) _ (by simpa using hqs))
        have HFX : Hid (eFst n.ts S tn (q + 1) = if eFst n.ts S tn q = 0 then eSum n.ts S q tn else eFst n.ts S tn q) := hide rfl
        have hfb := eFst_B (ts := n.ts) HO.out.1 tn q
        generalize upd (fun p => eSum n.ts S p tn) (List.replicate sn 0) q = O at *
        have HLO := hide hlen
        have HS0 : Hid (O.set q (eSum n.ts S q 0) = O) := hide (by
          have e : O[q]'(by omega) = 0 := by have := hat; simpa [List.getD, show q < O.length by omega] using this
          show O.set q 0 = O
          rw [← e, List.set_getElem_self])
        clear hlen hat
        generalize eFst n.ts S tn q = fs at *
        go_wp2_with fail
        clear n0 n1 ln
        go_loopw [11] (fun ix wr => ∃ i : Nat, i ≤ tn ∧ ix = .int .i64 (i : Int) ∧ QIn w n sa ta sn sc tn tc g eb S (O.set q (eSum n.ts S q i)) wr) (fun ix _ => tn - (intOf ix).toNat)
        case atStart => exact ⟨0, Nat.zero_le _, rfl, by rw [HS0.out]; exact HIN.out⟩
        case round =>
          clear HIN
          obtain ⟨i, hi, rfl, hin⟩ := hrel
          have HIN := hide hin
          obtain ⟨n0, n1, _⟩ := hin.kn.two
          have ln := hin.kn.lt
          obtain ⟨co, fo⟩ := ints_cellR hin.ko (q := q) (by rw [List.length_set, HLO.out]; exact hqs)
          have lo := hin.ko.lt
          rw [set_getDR _ _ _ _ _ (by rw [HLO.out]; exact hqs), if_pos rfl] at co
          have hsb := eSum_B (ts := n.ts) HO.out.1 q i
          have iq : (q : Int) < sn := by omega
          by_cases hit : i < tn
          · obtain ⟨cs, _⟩ := ints_cellR hin.ks (q := i) (by rw [hSl.out]; exact hit)
            have ls := hin.ks.lt
            obtain ⟨tb, toff, hta, htb, htc'⟩ := hin.rt.tri (by have := HNT.out.2; omega)
            obtain ⟨a0, a1, a2⟩ := htc' i (by have := HNT.out.2; omega)
            have htl : tb < wr.heap.size := by omega
            have HNS : Hid (eSum n.ts S q (i + 1) = eSum n.ts S q i + S.getD i 0 * coe (tri n.ts i) (q : Int)) := hide rfl
            have hS1 := HO.out.1 i
            clear hin htc'
            subst hta
            generalize tri n.ts i = t at *
            obtain ⟨xa, xb, xc⟩ := t
            dsimp only at a0 a1 a2
            have hc1 := coe_one (xa, xb, xc) (q : Int)
            have HC := hide (fun X : Ext wr => Ext.call (coef_any xa xb xc (q : Int) X.w))
            have HSS : Hid (∀ v : Int, (O.set q (eSum n.ts S q i)).set q v = O.set q v) := hide (fun v => by rw [List.set_set])
            generalize coe (xa, xb, xc) (q : Int) = cc at *
            generalize eSum n.ts S q i = es at *
            generalize S.getD i 0 = si at *
            have hp := mul_one3 hS1 hc1
            have w1 : IntKind.i64.wrap (si * cc) = si * cc := IntWalk.i64_in _ (by generalize si * cc = z at *; omega)
            have w2 : IntKind.i64.wrap (es + si * cc) = es + si * cc := IntWalk.i64_in _ (by generalize si * cc = z at *; omega)
            have ii : (i : Int) < tn := by omega
            clear hp hS1 hc1
            have hX := @Ext.cell wr
            have hXf := @Ext.frozen wr
            go_wp2_with fail
            refine wp_region_head (Ext.w (W := wr)) 18 (by kernel_rfl) (by kernel_rfl) (Ext.start wr) ?_
            simp only [List.take_succ_cons, List.take_zero, List.drop_succ_cons, List.drop_zero]
            repeat (quiet_step ((go_at_call 75; exact HC.out _)))
            refine wpQuiet_nil ?_
            intro X
            have HIN2 : Hid (QIn w n sa (some ⟨tb, toff, none⟩) sn sc tn tc g eb S (O.set q (eSum n.ts S q (i + 1))) (X.w.setCell ⟨eb, q, none⟩ (.int .i64 (es + si * cc)))) := hide (by
              have hh := (HIN.out.kept X.below).set q (es + si * cc)
              rw [HSS.out] at hh
              rw [HNS.out]
              exact hh)
            have ex : eb < X.w.heap.size := (HIN.out.kept X.below).ko.lt
            go_wp2_with fail
            exact ⟨⟨i + 1, by omega, by go_num, HIN2.out⟩, by simp [intOf]; omega⟩
          · have hie : i = tn := by omega
            have HIN2 : Hid (QIn w n sa ta sn sc tn tc g eb S (upd (fun p => eSum n.ts S p tn) (List.replicate sn 0) (q + 1)) wr) := hide (by have hh := HIN.out; rw [hie, HNX.out] at hh; exact hh)
            rw [hie] at co hsb
            clear hin hie
            by_cases hf : fs = 0
            · have df : (fs == 0) = true := beq_iff_eq.2 hf
              have HF2 : Hid (eFst n.ts S tn (q + 1) = eSum n.ts S q tn) := hide (by rw [HFX.out, if_pos hf])
              clear hf
              generalize eSum n.ts S q tn = es at *
              go_wp2_with fail
              exact ⟨⟨q + 1, by omega, by go_num, by rw [HF2.out], HIN2.out⟩, by simp [intOf]; omega⟩
            · have df : (fs == 0) = false := beq_eq_false_iff_ne.2 hf
              have HF2 : Hid (eFst n.ts S tn (q + 1) = fs) := hide (by rw [HFX.out, if_neg hf])
              clear hf
              go_wp2_with fail
              exact ⟨⟨q + 1, by omega, by go_num, by rw [HF2.out], HIN2.out⟩, by simp [intOf]; omega⟩
      · have hqe : q = sn := by omega
        have HALL : Hid (upd (fun p => eSum n.ts S p tn) (List.replicate sn 0) q = (List.range sn).map fun p => eSum n.ts S p tn) := hide (by rw [hqe]; exact upd_all _ _ (by simp))
        have hfb := eFst_B (ts := n.ts) HO.out.1 tn sn
        have HFI := hide (congrArg (eFst n.ts S tn) hqe)
        rw [HALL.out] at HIN
        rw [HFI.out]
        have HR2 : Hid (rEq n.ts sn set = ((List.range sn).map fun p => eSum n.ts S p tn * eFst n.ts S tn sn, true)) := hide (by rw [HR.out, if_neg (by simp), ← HNT.out.2])
        clear hqe HR HFI
        generalize eFst n.ts S tn sn = F at *
        go_wp2_with fail
        clear n0 n1 ln
        go_loopw [12] (fun ix wr => ∃ k : Nat, k ≤ sn ∧ ix = .int .i64 (k : Int) ∧ QIn w n sa ta sn sc tn tc g eb S (upd (fun p => eSum n.ts S p tn * F) ((List.range sn).map fun p => eSum n.ts S p tn) k) wr) (fun ix _ => sn - (intOf ix).toNat)
        case atStart => exact ⟨0, Nat.zero_le _, rfl, by rw [upd_zero]; exact HIN.out⟩
        case round =>
          clear HIN
          obtain ⟨k, hk, rfl, hin⟩ := hrel
          have HIN := hide hin
          by_cases hks : k < sn
          · have hlen : (upd (fun p => eSum n.ts S p tn * F) ((List.range sn).map fun p => eSum n.ts S p tn) k).length = sn := by rw [upd_len _ _ (by simp; omega)]; simp
            have HNX : Hid ((upd (fun p => eSum n.ts S p tn * F) ((List.range sn).map fun p => eSum n.ts S p tn) k).set k (eSum n.ts S k tn * F) = upd (fun p => eSum n.ts S p tn * F) ((List.range sn).map fun p => eSum n.ts S p tn) (k + 1)) := hide (upd_set (fun p => eSum n.ts S p tn * F) _ (by simpa using hks))
            obtain ⟨co, fo⟩ := ints_cellR hin.ko (q := k) (by rw [hlen]; exact hks)
            rw [upd_at _ _ _ _ (by simpa using hks)] at co
            have eg : ((List.range sn).map fun p => eSum n.ts S p tn).getD k 0 = eSum n.ts S k tn := by rw [List.getD_eq_getElem?_getD, List.getElem?_map, List.getElem?_range hks]; rfl
            rw [eg] at co
            have lo := hin.ko.lt
            have hsb := eSum_B (ts := n.ts) HO.out.1 k tn
            have HIN2 := hide (hin.set k (eSum n.ts S k tn * F))
            rw [HNX.out] at HIN2
            clear hin hlen eg HNX
            generalize eSum n.ts S k tn = es at *
            have hm : -25 ≤ es * F ∧ es * F ≤ 25 := by
              have h1 : -5 ≤ es ∧ es ≤ 5 := by omega
              have h2 : -5 ≤ F ∧ F ≤ 5 := by omega
              constructor
              · have := Int.mul_nonneg (a := es + 5) (b := F + 5) (by omega) (by omega)
                have := Int.mul_nonneg (a := 5 - es) (b := 5 - F) (by omega) (by omega)
                grind
              · have := Int.mul_nonneg (a := 5 - es) (b := F + 5) (by omega) (by omega)
                have := Int.mul_nonneg (a := es + 5) (b := 5 - F) (by omega) (by omega)
                grind
            have w1 : IntKind.i64.wrap (es * F) = es * F := IntWalk.i64_in _ (by omega)
            have ik : (k : Int) < sn := by omega
            go_wp2_with fail
            exact ⟨⟨k + 1, by omega, by go_num, HIN2.out⟩, by simp [intOf]; omega⟩
          · have hke : k = sn := by omega
            have HIN2 : Hid (QIn w n sa ta sn sc tn tc g eb S ((List.range sn).map fun p => eSum n.ts S p tn * F) wr) := hide (by
              have hh := HIN.out
              rw [hke, upd_all _ _ (by simp)] at hh
              exact hh)
            clear hin hke
            go_wp2_with fail
            go_ret2
            exact ⟨_, by rw [HR2.out]; rfl, fun h => ⟨eb, rfl, by have := HIN2.out.hb; omega, by rw [HR2.out]; exact HIN2.out.ko⟩, HIN2.out.be⟩

end Go.Proofs.Ytlbhnicengolfaa

/-! ## RefV: The reference of total: squared, reach. -/
namespace Go.Proofs.Ytlbhnicengolfaa
open Go.RowKit
set_option linter.unusedVariables false
set_option linter.unusedSimpArgs false

theorem squared_any (lo hi : Int) (w : World) (h0 : -40000 ≤ lo ∧ lo ≤ 40000) (h1 : -40000 ≤ hi ∧ hi ≤ 40000) : Calls Try.prog 59 #[.agg #[.int .i64 lo, .int .i64 hi]] w fun e w' => e = .returned (.agg #[.int .i64 (lo * lo), .int .i64 (hi * hi)]) ∧ Below w.heap.size w w' := by
  have hm : ∀ x : Int, -40000 ≤ x ∧ x ≤ 40000 → 0 ≤ x * x ∧ x * x ≤ 1600000000 := fun x hx => by
    rcases Int.le_total 0 x with h | h
    · have := sq_mono (a := x) (b := 40000) h hx.2
      have := Int.mul_nonneg h h
      omega
    · have := sq_mono (a := -x) (b := 40000) (by omega) (by omega)
      have := Int.mul_nonneg (a := -x) (b := -x) (by omega) (by omega)
      have e : -x * -x = x * x := by grind
      omega
  have m0 := hm lo h0
  have m1 := hm hi h1
  have w0 : IntKind.i64.wrap (lo * lo) = lo * lo := IntWalk.i64_in _ (by omega)
  have w1 : IntKind.i64.wrap (hi * hi) = hi * hi := IntWalk.i64_in _ (by omega)
  clear hm m0 m1 h0 h1
  go_enter Try.func59, Try.ntmps59
  go_wp2_with fail
  have kt := Blk.newAt (W := w.alloc (.cells #[.int .i64 lo, .int .i64 hi] 53)) (k := w.heap.size + 1) (by rw [sz1]) #[.int .i64 (lo * lo), .int .i64 (hi * hi)] 53
  obtain ⟨r0, r1, _⟩ := kt.two
  refine bodyPost_ret (v := .agg #[.int .i64 (lo * lo), .int .i64 (hi * hi)]) (by simp [results, Try.results59, go_sem, r0, r1]) rfl ⟨rfl, ((Below.refl _ _).alloc (Nat.le_refl _) _).alloc (by rw [sz1]; omega) _⟩

def reS (sp : List Sp) (cs : List Int) (but : Int) (s : Sp) (k : Nat) : Sp :=
  if (k : Int) ≠ but ∧ 0 < cs.getD k 0 then plusS s (los sp k * los sp k, his sp k * his sp k)
  else if (k : Int) ≠ but ∧ cs.getD k 0 < 0 then minusS s (los sp k * los sp k, his sp k * his sp k) else s
def reK (sp : List Sp) (cs : List Int) (but : Int) : Nat → Sp
  | 0 => (0, 0)
  | k + 1 => reS sp cs but (reK sp cs but k) k
def ReB (M : Int) (s : Sp) : Prop := -M ≤ s.1 ∧ s.1 ≤ M ∧ -M ≤ s.2 ∧ s.2 ≤ M
def SpW (sp : List Sp) : Prop := ∀ k, k < sp.length → -40000 ≤ los sp k ∧ los sp k ≤ 40000 ∧ -40000 ≤ his sp k ∧ his sp k ≤ 40000
theorem sq_w {x : Int} (h : -40000 ≤ x ∧ x ≤ 40000) : 0 ≤ x * x ∧ x * x ≤ 1600000000 := by
  rcases Int.le_total 0 x with h0 | h0
  · have := sq_mono (a := x) (b := 40000) h0 h.2
    have := Int.mul_nonneg h0 h0
    omega
  · have := sq_mono (a := -x) (b := 40000) (by omega) (by omega)
    have := Int.mul_nonneg (a := -x) (b := -x) (by omega) (by omega)
    have e : -x * -x = x * x := by grind
    omega
theorem reK_B {sp : List Sp} (h : SpW sp) (cs : List Int) (but : Int) : ∀ k : Nat, k ≤ sp.length → ReB (1600000000 * (k : Int)) (reK sp cs but k)
  | 0, _ => by simp [reK, ReB]
  | k + 1, hk => by
    have ih := reK_B h cs but k (by omega)
    obtain ⟨a0, a1, a2, a3⟩ := h k (by omega)
    have m0 := sq_w ⟨a0, a1⟩
    have m1 := sq_w ⟨a2, a3⟩
    unfold reK reS plusS minusS
    generalize reK sp cs but k = s at *
    obtain ⟨s0, s1⟩ := s
    generalize los sp k * los sp k = u at *
    generalize his sp k * his sp k = v at *
    unfold ReB at *
    dsimp only at *
    split
    · dsimp only; omega
    · split
      · dsimp only; omega
      · dsimp only; omega
structure ReIn (w : World) (n : TNet) (sa : Option Addr) (sn sc : Nat) (tv : Value) (ca : Option Addr) (cs : List Int) (s : Sp) (wr : World) : Prop where
  kn : Blk wr w.heap.size #[.slice sa sn sc, tv] 35
  k6 : Blk wr (w.heap.size + 1) #[.int .i64 0, .int .i64 0] 53
  ko : Blk wr (w.heap.size + 2) #[.int .i64 s.1, .int .i64 s.2] 53
  rs : Row wr w.heap.size sa (spans n.sp)
  rc : Row wr w.heap.size ca (ints cs)
  be : Below w.heap.size w wr
section
variable {w : World} {n : TNet} {sa : Option Addr} {sn sc : Nat} {tv : Value} {ca : Option Addr} {cs : List Int} {s : Sp} {wr W : World}
theorem ReIn.kept (h : ReIn w n sa sn sc tv ca cs s wr) (hb : Below wr.heap.size wr W) : ReIn w n sa sn sc tv ca cs s W :=
  ⟨h.kn.kept hb, h.k6.kept hb, h.ko.kept hb, h.rs.below hb (by have := h.kn.lt; omega), h.rc.below hb (by have := h.kn.lt; omega), h.be.trans (hb.mono h.be.size)⟩
theorem ReIn.set (h : ReIn w n sa sn sc tv ca cs s wr) (x y : Int) : ReIn w n sa sn sc tv ca cs (x, y) ((wr.setCell ⟨w.heap.size + 2, 0, none⟩ (.int .i64 x)).setCell ⟨w.heap.size + 2, 1, none⟩ (.int .i64 y)) :=
  have hb : Below (w.heap.size + 2) wr ((wr.setCell ⟨w.heap.size + 2, 0, none⟩ (.int .i64 x)).setCell ⟨w.heap.size + 2, 1, none⟩ (.int .i64 y)) := ((Below.refl _ _).setCell (p := ⟨w.heap.size + 2, 0, none⟩) (Nat.le_refl _) _).setCell (p := ⟨w.heap.size + 2, 1, none⟩) (Nat.le_refl _) _
  ⟨h.kn.below hb (by omega), h.k6.below hb (by omega), h.ko.set2 _ _, h.rs.below hb (by omega), h.rc.below hb (by omega), (h.be.setCell (p := ⟨w.heap.size + 2, 0, none⟩) (Nat.le_add_right _ 2) _).setCell (p := ⟨w.heap.size + 2, 1, none⟩) (Nat.le_add_right _ 2) _⟩
end
set_option maxRecDepth 100000 in
set_option maxHeartbeats 8000000 in
theorem reach_any (n : TNet) (cs : List Int) (but : Int) (sa ca : Option Addr) (tv : Value) (sn sc cc : Nat) (w : World) (hsn : sn = n.sp.length) (h11 : sn ≤ 11) (hw : SpW n.sp) (hrs : Row w w.heap.size sa (spans n.sp)) (hc : cs.length = sn) (hrc : Row w w.heap.size ca (ints cs)) :
    Calls Try.prog 56 #[.agg #[.slice sa sn sc, tv], .slice ca sn cc, .int .i64 but] w fun e w' => e = .returned (.agg #[.int .i64 (reK n.sp cs but sn).1, .int .i64 (reK n.sp cs but sn).2]) ∧ Below w.heap.size w w' := by
  have HN := hide (And.intro hsn hc)
  have HW := hide hw
  have hin0 : ReIn w n sa sn sc tv ca cs (0, 0) (((w.alloc (.cells #[.slice sa sn sc, tv] 35)).alloc (.cells #[.int .i64 0, .int .i64 0] 53)).alloc (.cells #[.int .i64 0, .int .i64 0] 53)) := by
    have hb : Below w.heap.size w (((w.alloc (.cells #[.slice sa sn sc, tv] 35)).alloc (.cells #[.int .i64 0, .int .i64 0] 53)).alloc (.cells #[.int .i64 0, .int .i64 0] 53)) := (((Below.refl _ _).alloc (Nat.le_refl _) _).alloc (by rw [sz1]; omega) _).alloc (by rw [sz1, sz1]; omega) _
    exact ⟨((Blk.new w _ _).alloc _).alloc _, (Blk.newAt (by rw [sz1]) _ _).alloc _, Blk.newAt (by rw [sz1, sz1]) _ _, hrs.below hb (Nat.le_refl _), hrc.below hb (Nat.le_refl _), hb⟩
  have HIN0 := hide hin0
  clear hsn hw hrs hc hrc hin0
  go_enter Try.func56, Try.ntmps56
  go_wp2_with fail
  simp only [Nat.add_assoc, Nat.reduceAdd]
  generalize World.alloc (World.alloc (World.alloc w _) _) _ = V0 at *
  go_loopw [8] (fun ix wr => ∃ k : Nat, k ≤ sn ∧ ix = .int .i64 (k : Int) ∧ ReIn w n sa sn sc tv ca cs (reK n.sp cs but k) wr) (fun ix _ => sn - (intOf ix).toNat)
  case atStart => exact ⟨0, Nat.zero_le _, rfl, HIN0.out⟩
  case round =>
    clear HIN0
    obtain ⟨k, hk, rfl, hin⟩ := hrel
    have HIN := hide hin
    by_cases hks : k < sn
    · obtain ⟨n0, _⟩ := hin.kn.two
      have ln := hin.kn.lt
      obtain ⟨sb, soff, hsa, hsb, hsc⟩ := hin.rs.span (by have := HN.out.1; omega)
      obtain ⟨s0, s1⟩ := hsc k (by have := HN.out.1; omega)
      obtain ⟨cb, coff, hca, hcb, hcc⟩ := hin.rc.int (by rw [HN.out.2]; omega)
      have c0 := hcc k (by rw [HN.out.2]; exact hks)
      have hsp := HW.out k (by rw [← HN.out.1]; exact hks)
      have hsl : sb < wr.heap.size := by omega
      have hrb := reK_B HW.out cs but k (by rw [← HN.out.1]; omega)
      have HRX : Hid (reK n.sp cs but (k + 1) = if (k : Int) ≠ but ∧ 0 < cs.getD k 0 then plusS (reK n.sp cs but k) (los n.sp k * los n.sp k, his n.sp k * his n.sp k) else if (k : Int) ≠ but ∧ cs.getD k 0 < 0 then minusS (reK n.sp cs but k) (los n.sp k * los n.sp k, his n.sp k * his n.sp k) else reK n.sp cs but k) := hide rfl
      clear hsc hcc hin
      subst hsa hca
      unfold iat at c0
      generalize reK n.sp cs but k = S at *
      obtain ⟨r0, r1⟩ := S
      generalize los n.sp k = lo at *
      generalize his n.sp k = hi at *
      generalize hcd : cs.getD k 0 = c at *
      have HCD := hide hcd
      clear hcd
      obtain ⟨p0, p1, p2, p3⟩ := hsp
      have m0 := sq_w ⟨p0, p1⟩
      have m1 := sq_w ⟨p2, p3⟩
      unfold ReB at hrb
      dsimp only at hrb
      obtain ⟨q0, q1, q2, q3⟩ := hrb
      have HSQ := hide (fun (W : World) => squared_any lo hi W ⟨p0, p1⟩ ⟨p2, p3⟩)
      have ik : (k : Int) < sn := by omega
      clear p0 p1 p2 p3
      go_wp2_with fail
      refine (HSQ.out _).mono ?_
      rintro e W2 ⟨rfl, hb2⟩
      obtain ⟨V3, hV3⟩ : ∃ V3, W2.alloc (.cells #[.int .i64 (lo * lo), .int .i64 (hi * hi)] 53) = V3 := ⟨_, rfl⟩
      have hbv : Below wr.heap.size wr V3 := by rw [← hV3]; exact hb2.alloc hb2.size _
      have k3 : Blk V3 W2.heap.size #[.int .i64 (lo * lo), .int .i64 (hi * hi)] 53 := by rw [← hV3]; exact Blk.new _ _ _
      have HIN2 := hide (HIN.out.kept hbv)
      obtain ⟨t0, t1, _⟩ := k3.two
      have lt := k3.lt
      obtain ⟨o0, o1, of0, of1⟩ := HIN2.out.ko.two
      have lo3 := HIN2.out.ko.lt
      have hcl : cb < V3.heap.size := by have := hbv.size; omega
      have c1 : V3.cell? ⟨cb, coff + k, none⟩ = some (.int .i64 c) := (hbv.cell (p := ⟨cb, coff + k, none⟩) (show cb < wr.heap.size by omega)).trans c0
      clear hb2 hbv k3 n0 ln s0 s1 hsl HSQ HIN c0 hcb hsb
      dsimp only at o0 o1
      generalize lo * lo = u at *
      generalize hi * hi = v at *
      have w1 : IntKind.i64.wrap (r0 + u) = r0 + u := IntWalk.i64_in _ (by omega)
      have w2 : IntKind.i64.wrap (r1 + v) = r1 + v := IntWalk.i64_in _ (by omega)
      have w3 : IntKind.i64.wrap (r0 - v) = r0 - v := IntWalk.i64_in _ (by omega)
      have w4 : IntKind.i64.wrap (r1 - u) = r1 - u := IntWalk.i64_in _ (by omega)
      by_cases hbt : (k : Int) = but
      · have db : ((k : Int) != but) = false := by rw [hbt]; simp
        have HX : Hid (reK n.sp cs but (k + 1) = (r0, r1)) := hide (by rw [HRX.out, if_neg (fun h => h.1 hbt), if_neg (fun h => h.1 hbt)])
        clear hbt
        go_wp2_with fail
        exact ⟨⟨k + 1, by omega, by go_num, by rw [HX.out]; exact HIN2.out⟩, by simp [intOf]; omega⟩
      · have db : ((k : Int) != but) = true := by rw [bne_iff_ne]; exact hbt
        by_cases hp : 0 < c
        · have d1 : decide (0 < c) = true := decide_eq_true hp
          have d2 : decide (c < 0) = false := decide_eq_false (by omega)
          have HX : Hid (reK n.sp cs but (k + 1) = (r0 + u, r1 + v)) := hide (by rw [HRX.out, if_pos ⟨hbt, hp⟩]; rfl)
          have HIN3 := hide (HIN2.out.set (r0 + u) (r1 + v))
          have f1 : (⟨W2.heap.size, 0, none⟩ : Addr).block = W2.heap.size := rfl
          have c2 : ((V3.setCell ⟨w.heap.size + 2, 0, none⟩ (.int .i64 (r0 + u))).setCell ⟨w.heap.size + 2, 1, none⟩ (.int .i64 (r1 + v))).cell? ⟨cb, coff + k, none⟩ = some (.int .i64 c) := by
            obtain ⟨_, _, e, h1, h2⟩ := HIN3.out.rc.int (by rw [HN.out.2]; omega)
            cases e
            have := h2 k (by rw [HN.out.2]; exact hks)
            unfold iat at this
            rw [HCD.out] at this
            exact this
          clear hbt hp
          go_wp2_with fail
          exact ⟨⟨k + 1, by omega, by go_num, by rw [HX.out]; exact HIN3.out⟩, by simp [intOf]; omega⟩
        · have d1 : decide (0 < c) = false := decide_eq_false hp
          by_cases hn : c < 0
          · have d2 : decide (c < 0) = true := decide_eq_true hn
            have HX : Hid (reK n.sp cs but (k + 1) = (r0 - v, r1 - u)) := hide (by rw [HRX.out, if_neg (fun h => hp h.2), if_pos ⟨hbt, hn⟩]; rfl)
            have HIN3 := hide (HIN2.out.set (r0 - v) (r1 - u))
            clear hbt hp hn
            go_wp2_with fail
            exact ⟨⟨k + 1, by omega, by go_num, by rw [HX.out]; exact HIN3.out⟩, by simp [intOf]; omega⟩
          · have d2 : decide (c < 0) = false := decide_eq_false hn
            have HX : Hid (reK n.sp cs but (k + 1) = (r0, r1)) := hide (by rw [HRX.out, if_neg (fun h => hp h.2), if_neg (fun h => hn h.2)])
            clear hbt hp hn
            go_wp2_with fail
            exact ⟨⟨k + 1, by omega, by go_num, by rw [HX.out]; exact HIN2.out⟩, by simp [intOf]; omega⟩
    · have hke : k = sn := by omega
      obtain ⟨o0, o1, of0, of1⟩ := hin.ko.two
      obtain ⟨z0, z1, zf0, zf1⟩ := hin.k6.two
      have lo3 := hin.ko.lt
      have lz := hin.k6.lt
      have HKE : Hid (reK n.sp cs but k = reK n.sp cs but sn) := hide (by rw [hke])
      have hB := hin.be
      rw [HKE.out] at o0 o1
      clear hin hke
      generalize hSS : reK n.sp cs but sn = S at *
      obtain ⟨r0, r1⟩ := S
      have HSS := hide hSS
      clear hSS
      dsimp only at o0 o1 ⊢
      have k6 := HIN.out.k6.set2 (.int .i64 r0) (.int .i64 r1)
      obtain ⟨y0, y1, _⟩ := k6.two
      have hB2 := (hB.setCell (p := ⟨w.heap.size + 1, 0, none⟩) (Nat.le_add_right _ 1) (.int .i64 r0)).setCell (p := ⟨w.heap.size + 1, 1, none⟩) (Nat.le_add_right _ 1) (.int .i64 r1)
      clear k6
      go_wp2_with fail
      refine bodyPost_ret (v := .agg #[.int .i64 r0, .int .i64 r1]) (by simp [results, Try.results56, go_sem, y0, y1]) rfl ⟨by rw [HSS.out], hB2⟩

end Go.Proofs.Ytlbhnicengolfaa
