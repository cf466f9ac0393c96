/-
  Package total: Truth.
-/
import Derived.Test.YtlbhnicengolfaaLenSus
namespace Go.Proofs.Ytlbhnicengolfaa
open Go.RowKit
set_option linter.unusedVariables false
set_option linter.unusedSimpArgs false

/-! ### the plain model -/
def fixLo (ls : List Sp) (q : Nat) : List Sp := ls.set q ((ls.getD q (0, 0)).1, (ls.getD q (0, 0)).1)
def fixHi (ls : List Sp) (q : Nat) : List Sp := ls.set q ((ls.getD q (0, 0)).2, (ls.getD q (0, 0)).2)
def tru1 (n : TNet) (q : Nat) (high : Bool) : List Sp := if high then fixHi (narT n.ts (sqs n.sp)) q else fixLo (narT n.ts (sqs n.sp)) q
def truN (ts : List Tri) (ls : List Sp) : Nat → List Sp
  | 0 => ls
  | k + 1 => fixLo (narT ts (truN ts ls k)) k
/-- What Truth returns. -/
def truR (n : TNet) (q : Int) (high : Bool) : List Int × Int :=
  if (sqR n).2 ≠ 0 then ([], (sqR n).2) else if q < 0 ∨ (n.sp.length : Int) ≤ q then ([], 6)
  else ((truN n.ts (tru1 n q.toNat high) n.sp.length).map (·.1), 0)
theorem fixLo_len (ls : List Sp) (q : Nat) : (fixLo ls q).length = ls.length := by simp [fixLo]
theorem tru1_len (n : TNet) (q : Nat) (high : Bool) : (tru1 n q high).length = n.sp.length := by unfold tru1; split <;> simp [fixLo, fixHi, narT_len, sqs_len]
theorem truN_len (ts : List Tri) (ls : List Sp) (k : Nat) : (truN ts ls k).length = ls.length := by
  induction k with
  | zero => rfl
  | succ k ih => unfold truN; rw [fixLo_len, narT_len, ih]

/-! ### one end written -/
theorem spans_set_hi : ∀ (ls : List Sp) (q : Nat) (y : Int), q < ls.length → (spans ls).set (q * 2 + 1) (.int .i64 y) = spans (ls.set q ((ls.getD q (0, 0)).1, y))
  | p :: ls, 0, y, _ => rfl
  | p :: ls, q + 1, y, h => by
    have := spans_set_hi ls q y (by simpa using h)
    rw [show (q + 1) * 2 + 1 = q * 2 + 1 + 1 + 1 by omega]
    simp only [spans, List.set_cons_succ, List.getD_cons_succ]
    rw [this]
theorem spans_set_lo : ∀ (ls : List Sp) (q : Nat) (x : Int), q < ls.length → (spans ls).set (q * 2) (.int .i64 x) = spans (ls.set q (x, (ls.getD q (0, 0)).2))
  | p :: ls, 0, y, _ => rfl
  | p :: ls, q + 1, y, h => by
    have := spans_set_lo ls q y (by simpa using h)
    rw [show (q + 1) * 2 = q * 2 + 1 + 1 by omega]
    simp only [spans, List.set_cons_succ, List.getD_cons_succ]
    rw [this]
section
variable {W : World} {B g m cap : Nat} {e : TypeId} {ls : List Sp}
theorem own2_hi (h : W.ownsRow B e 2 (.slice (some ⟨g, 0, none⟩) m cap) m (spans ls)) {q : Nat} (hq : q < m) (y : Int) :
    (W.setCell ⟨g, q * 2 + 1, none⟩ (.int .i64 y)).ownsRow B e 2 (.slice (some ⟨g, 0, none⟩) m cap) m (spans (ls.set q ((ls.getD q (0, 0)).1, y))) := by
  have hl := own2_len h
  obtain ⟨cur, hk, hb, hle, hm, hs, ht⟩ := own2_blk h
  refine ⟨by rw [spans_length, List.length_set]; omega, .inr ⟨g, cap, _, rfl, hb, hk.set (q * 2 + 1) (.int .i64 y), hle, hm, by simpa using hs, ?_⟩⟩
  rw [Array.toList_setIfInBounds, List.take_set, ht, spans_set_hi ls q y (by omega)]
theorem own2_lo (h : W.ownsRow B e 2 (.slice (some ⟨g, 0, none⟩) m cap) m (spans ls)) {q : Nat} (hq : q < m) (x : Int) :
    (W.setCell ⟨g, q * 2, none⟩ (.int .i64 x)).ownsRow B e 2 (.slice (some ⟨g, 0, none⟩) m cap) m (spans (ls.set q (x, (ls.getD q (0, 0)).2))) := by
  have hl := own2_len h
  obtain ⟨cur, hk, hb, hle, hm, hs, ht⟩ := own2_blk h
  refine ⟨by rw [spans_length, List.length_set]; omega, .inr ⟨g, cap, _, rfl, hb, hk.set (q * 2) (.int .i64 x), hle, hm, by simpa using hs, ?_⟩⟩
  rw [Array.toList_setIfInBounds, List.take_set, ht, spans_set_lo ls q x (by omega)]
end

/-! ### make and copy of spans -/
theorem run_copy_row2 {P : Program} (w : World) (dT sT ty elem : TypeId) (g dLen dCap : Nat) (a : Addr) (sLen sCap : Nat) (cur : Array Value) (t : TypeId) (cs : List Value)
    (hu : P.underlying dT = some (.slice elem)) (hs : (P.info? elem).map (·.size) = some 2)
    (hg : w.heap[g]? = some (.cells cur t (0, 0))) (hn : cs.length = Nat.min sLen dLen * 2)
    (hsrc : ∀ j v, cs[j]? = some v → w.cell? (a.add j) = some v) (hfit : cs.length ≤ cur.size) (h1 : ∀ v ∈ cs, v.oneCell' = true) :
    (Builtin.copy_ #[dT, sT] ty #[.slice (some ⟨g, 0, none⟩) dLen dCap, .slice (some a) sLen sCap]).run P w =
      .ok (goInt (Nat.min sLen dLen)) (w.setRow g (cur.toList.take 0 ++ cs ++ cur.toList.drop (0 + cs.length)).toArray) := by
  have hl := run_loadCells_list (P := P) w a cs hsrc
  have hst := run_storeCells_at P g 0 t cs 0 cur w hg (by simpa using hfit) h1
  cases hq : P.info? elem with
  | none => simp [hq] at hs
  | some i =>
    have hi : i.size = 2 := by simpa [hq] using hs
    simp [Builtin.copy_, run_underlying hu, Builtin.lenOf, Builtin.firstCells, sizeOf, typeInfo, hq, hi, ← hn, hl, hst]

/-- 'copy(now, l)', now made of the same length. -/
theorem wpList_copy_spans {ops : Array Oper} {rest : List Oper} {o : Oper} {a : Act} {Q : Exit → Act → World → Prop} {w : World} (hgd : o.guard = none) (d s : Operand)
    (ho : o.op = .call { callee := .builtin .copy, args := #[d, s], argTypes := #[95, 95] })
    (g2 g m cap B : Nat) (ls : List Sp) (Z : Array Value) (hd : a.eval d = .slice (some ⟨g2, 0, none⟩) m m) (hs : a.eval s = .slice (some ⟨g, 0, none⟩) m cap)
    (hZ : Z.size = m * 2) (hk : Blk w g2 Z 99) (hm : m ≤ 1000) (hown : w.ownsRow B 99 2 (.slice (some ⟨g, 0, none⟩) m cap) m (spans ls)) (B2 : Nat) (hB2 : B2 ≤ g2)
    (h : ∀ w', w'.ownsRow B2 99 2 (.slice (some ⟨g2, 0, none⟩) m m) m (spans ls) → w.grownBy w' (some g2) → wpList Try.prog ops Q rest (a.put o.dst (goInt m)) w') : wpList Try.prog ops Q (o :: rest) a w := by
  refine wpList_plain hgd fun K hK => ?_
  have hl := own2_len hown
  have hsl := spans_length ls
  have hmin : Nat.min m m = m := Nat.min_self m
  have hrun := run_copy_row2 (P := Try.prog) w 95 95 o.type 99 g2 m m ⟨g, 0, none⟩ m cap Z 99 (spans ls) under_spns (by kernel_rfl) hk (by rw [hmin, hsl]; omega)
    (fun j v hj => by
      have hjl : j < (spans ls).length := (List.getElem?_eq_some_iff.1 hj).1
      have := hown.cellAt j (by omega)
      rw [hj] at this
      rw [show (⟨g, 0, none⟩ : Addr).add j = ⟨g, j, none⟩ by unfold Addr.add; split <;> simp_all]
      exact this) (by omega) (by
      intro v hv
      have : ∀ ls : List Sp, ∀ v ∈ spans ls, v.oneCell' = true := by
        intro ls
        induction ls with
        | nil => intro v hv; cases hv
        | cons p ls ih =>
          intro v hv
          simp only [spans, List.mem_cons] at hv
          rcases hv with rfl | rfl | hv
          · rfl
          · rfl
          · exact ih v hv
      exact this ls v hv)
  rw [hmin] at hrun
  unfold Oper.wp
  simp only [execOp, ho, resolve, invoke, builtin, Sem.run_bind, Sem.run_pure, Result.andThen_ok, List.map_toArray, List.map_cons, List.map_nil, hd, hs, hrun]
  refine hK _ _ (h _ ⟨by rw [hsl]; omega, .inr ⟨g2, m, _, rfl, hB2, setRow_heap w g2 _ _ _ _ hk, Nat.le_refl _, by unfold maxLen; omega, ?_, ?_⟩⟩ ⟨rfl, rfl, rfl, by simp [World.setRow], fun k hk' hne => setRow_other w g2 k _ (fun e => hne (by rw [e]))⟩)
  · simp [hsl, hZ]; omega
  · have hdrop : Z.toList.drop (2 * ls.length) = [] := List.drop_of_length_le (by simp [hZ]; omega)
    simp only [List.take_zero, List.nil_append, Nat.zero_add, hsl, hdrop, List.append_nil]
    exact List.take_of_length_le (by rw [hsl]; omega)

theorem getD_set_eq {ls : List Sp} {q : Nat} {s : Sp} (h : q < ls.length) : (ls.set q s).getD q (0, 0) = s := by simp [List.getD, h]
theorem lo_take {L : List Sp} {k : Nat} (h : k < L.length) : (L.take (k + 1)).map (·.1) = (L.take k).map (·.1) ++ [(L.getD k (0, 0)).1] := by rw [span_take h, List.map_append]; rfl

set_option maxRecDepth 100000 in
set_option maxHeartbeats 8000000 in
theorem truth_any (n : TNet) (q : Int) (high : Bool) (sa ta : Option Addr) (sn sc tn tc : Nat) (w : World) (h : NetIn n sa ta sn tn tc w)
    (hB : (sqR n).2 = 0 → 0 ≤ q → q < (n.sp.length : Int) → ∀ k, k < n.sp.length → LsB 100000000 (truN n.ts (tru1 n q.toNat high) k)) :
    Calls Try.prog 31 #[netV sa ta sn sc tn tc, .int .i64 q, .bool high] w fun e w' =>
      ∃ v, e = .returned (.tuple #[v, .int .i64 (truR n q high).2]) ∧ w'.ownsRow w.heap.size 3 1 v (truR n q high).1.length (ints (truR n q high).1) ∧ Below w.heap.size w w' := by
  have hb1 : Below w.heap.size w (w.alloc (.cells #[.slice sa sn sc, .slice ta tn tc] 25)) := (Below.refl _ _).alloc (Nat.le_refl _) _
  have kn := Blk.new w #[.slice sa sn sc, .slice ta tn tc] 25
  have HSQ := hide (squares_any n sa ta sn sc tn tc _ (h.below hb1))
  have H := hide h
  have HR : Hid (truR n q high = if (sqR n).2 ≠ 0 then ([], (sqR n).2) else if q < 0 ∨ (sn : Int) ≤ q then ([], 6) else ((truN n.ts (tru1 n q.toNat high) sn).map (·.1), 0)) := hide (by rw [h.hsn]; rfl)
  have HB := hide hB
  have HOK : Hid ((sqR n).2 = 0 → checkT n = 0) := hide (fun h => by unfold sqR at h; split at h; exact h; rename_i h1; exact Decidable.not_not.1 h1)
  clear h hB
  generalize (sqR n).1 = L0 at *
  generalize (sqR n).2 = E at *
  go_enter Try.func31, Try.ntmps31
  go_wp2_with fail
  refine HSQ.out.mono ?_
  rintro e W2 ⟨v0, rfl, _, hb2⟩
  have kn2 := kn.kept hb2
  have hB2 := hb1.trans (hb2.mono hb1.size)
  clear hb1 hb2 HSQ kn
  by_cases h0 : E = 0
  rotate_left
  · have HF : Hid (truR n q high = ([], E)) := hide (by rw [HR.out, if_pos h0])
    have d0 : (E != 0) = true := by rw [bne_iff_ne]; exact h0
    clear h0
    go_wp2_with fail
    exact bodyPost_ret (v := .tuple #[.slice none 0 0, .int .i64 E]) (by simp [results, Try.results31, go_sem]) rfl ⟨_, by rw [HF.out], by rw [HF.out]; exact World.ownsRow_nil _ _ _ _, hB2⟩
  have d0 : (E != 0) = false := by simpa using h0
  have hn := nok_of_check (HOK.out h0)
  have HN := hide hn
  have HB1 := hide (fun a b => HB.out h0 a b)
  have HR1 : Hid (truR n q high = if q < 0 ∨ (sn : Int) ≤ q then ([], 6) else ((truN n.ts (tru1 n q.toNat high) sn).map (·.1), 0)) := hide (by rw [HR.out, if_neg (by simpa using h0)])
  have hs11 : sn ≤ 11 := by have := H.out.hsn; have := hn.l2; omega
  clear HR HB HOK hn h0
  obtain ⟨n0, n1, _⟩ := kn2.two
  have ln := kn2.lt
  by_cases hq0 : q < 0
  · have HF : Hid (truR n q high = ([], 6)) := hide (by rw [HR1.out, if_pos (.inl hq0)])
    have d1 : decide (q < 0) = true := decide_eq_true hq0
    go_wp2_with fail
    exact bodyPost_ret (v := .tuple #[.slice none 0 0, .int .i64 6]) (by simp [results, Try.results31, go_sem]) rfl ⟨_, by rw [HF.out], by rw [HF.out]; exact World.ownsRow_nil _ _ _ _, hB2⟩
  have d1 : decide (q < 0) = false := decide_eq_false hq0
  by_cases hq1 : (sn : Int) ≤ q
  · have HF : Hid (truR n q high = ([], 6)) := hide (by rw [HR1.out, if_pos (.inr hq1)])
    have d2 : decide ((sn : Int) ≤ q) = true := decide_eq_true hq1
    clear hq0
    go_wp2_with fail
    exact bodyPost_ret (v := .tuple #[.slice none 0 0, .int .i64 6]) (by simp [results, Try.results31, go_sem]) rfl ⟨_, by rw [HF.out], by rw [HF.out]; exact World.ownsRow_nil _ _ _ _, hB2⟩
  have d2 : decide ((sn : Int) ≤ q) = false := decide_eq_false hq1
  have HF : Hid (truR n q high = ((truN n.ts (tru1 n q.toNat high) sn).map (·.1), 0)) := hide (by rw [HR1.out, if_neg (by omega)])
  have HB2 : Hid (∀ k, k < sn → LsB 100000000 (truN n.ts (tru1 n q.toNat high) k)) := hide (fun k hk => HB1.out (by omega) (by have := H.out.hsn; omega) k (by have := H.out.hsn; omega))
  clear HR1 HB1
  obtain ⟨qn, rfl⟩ : ∃ qn : Nat, q = (qn : Int) := ⟨q.toNat, by omega⟩
  simp only [Int.toNat_natCast] at HB2 HF
  have hqn : qn < sn := by omega
  have HSP := hide ((H.out.below hB2).spans HN.out sc)
  clear hq0 hq1
  go_wp2_with fail
  refine HSP.out.mono ?_
  rintro e W3 ⟨g, cap, rfl, own3, hb3⟩
  have kn3 := kn2.kept hb3
  have hB3 := hB2.trans (hb3.mono hB2.size)
  have hgl := own3.lt g rfl
  have hsz3 := hb3.size
  have HNA := hide (H.out.narrow HN.out sc (sqs n.sp) (W2.heap.size + 1) g cap hB3 (by omega) (by omega) (sqs_B HN.out) own3)
  clear HSP own3 hb3 kn2 n0 n1 ln
  obtain ⟨n0, n1, _⟩ := kn3.two
  have ln := kn3.lt
  have HT1 : Hid (tru1 n qn high = if high then fixHi (narT n.ts (sqs n.sp)) qn else fixLo (narT n.ts (sqs n.sp)) qn) := hide rfl
  have HTL := hide (tru1_len n qn high)
  generalize narT n.ts (sqs n.sp) = L at *
  go_wp2_with fail
  refine HNA.out.mono ?_
  rintro e W4 ⟨rfl, own4, gr4⟩
  have hgw : w.heap.size < g := by have := hB2.size; omega
  have hB4 : Below w.heap.size w W4 := ⟨gr4.os.trans hB3.os, gr4.tape.trans hB3.tape, gr4.output.trans hB3.output, Nat.le_trans hB3.size gr4.size, fun k hk => (gr4.block k (by have := hB3.size; omega) (fun e => by injection e; omega)).trans (hB3.block k hk)⟩
  have kn4 : Blk W4 w.heap.size #[.slice sa sn sc, .slice ta tn tc] 25 := (gr4.block _ kn3.lt (fun e => by injection e; omega)).trans kn3
  clear HNA gr4 hB3 kn3 n0 n1 ln
  obtain ⟨c0, c1, f0, f1⟩ := own2_cell own4 hqn
  obtain ⟨_, _, _, hsc, hcm⟩ := own2_blk own4
  unfold maxLen at hcm
  have hll := own2_len own4
  have HLL := hide hll
  clear hll
  have hwB : w.heap.size + 1 ≤ W2.heap.size + 1 := by have := hB2.size; omega
  generalize hS : L.getD qn (0, 0) = S at *
  have HS := hide hS
  clear hS
  cases high
  case' true =>
    have own5 := own2_lo own4 hqn S.2
    rw [HS.out] at own5
    have HT2 : Hid (L.set qn (S.2, S.2) = tru1 n qn true) := hide (by rw [HT1.out, ← HS.out]; rfl)
    rw [HT2.out] at own5
    have hB5 := hB4.setCell (p := ⟨g, qn * 2, none⟩) (show w.heap.size ≤ g by omega) (.int .i64 S.2)
    have kn5 := kn4.other (p := ⟨g, qn * 2, none⟩) (show w.heap.size ≠ g by omega) (.int .i64 S.2)
    clear HT2
    go_upto_region 11 with (fail)
    generalize World.setCell W4 _ _ = V at *
    clear HT1
    generalize tru1 n qn true = l1 at *
  case' false =>
    have own5 := own2_hi own4 hqn S.1
    rw [HS.out] at own5
    have HT2 : Hid (L.set qn (S.1, S.1) = tru1 n qn false) := hide (by rw [HT1.out, ← HS.out]; rfl)
    rw [HT2.out] at own5
    have hB5 := hB4.setCell (p := ⟨g, qn * 2 + 1, none⟩) (show w.heap.size ≤ g by omega) (.int .i64 S.1)
    have kn5 := kn4.other (p := ⟨g, qn * 2 + 1, none⟩) (show w.heap.size ≠ g by omega) (.int .i64 S.1)
    clear HT2
    go_upto_region 11 with (fail)
    generalize World.setCell W4 _ _ = V at *
    clear HT1
    generalize tru1 n qn false = l1 at *
  all_goals
    clear own4 hB4 kn4 c0 c1 f0 f1
    have own6 := Go.Joins.ownsRow_le own5 hwB
    clear own5 hgl hsz3
    obtain ⟨i0, hi, hz0, hz1, hz2⟩ := info_spn
    obtain ⟨Z, hZ, hmk⟩ : ∃ Z : Array Value, Z.size = sn * 2 ∧ ∀ w : World, (Instr.makeSlice 95 (.int .i64 (sn : Int)) (.int .i64 (sn : Int))).run Try.prog w = .ok (.slice (some ⟨w.heap.size, 0, none⟩) sn sn) (w.alloc (.cells Z 99)) :=
      ⟨madeCells (Value.agg #[.int .i64 0, .int .i64 0]).cells (sn * i0.size), by rw [size_madeCells, hz1], fun w => by simpa using run_make (P := Try.prog) w 95 99 i0 _ under_spns hi hz0 .i64 .i64 (sn : Int) (sn : Int) (by omega) (Int.le_refl _) (by rw [hz2]; omega) (by omega)⟩
    clear hi hz0 hz1 hz2
    have HZ := hide hZ
    clear hZ
    go_wp2_with fail
    go_loopw [10, 63] (fun l i wr => ∃ (k g cap : Nat), k ≤ sn ∧ i = .int .i64 (k : Int) ∧ l = .slice (some ⟨g, 0, none⟩) sn cap ∧ wr.ownsRow (w.heap.size + 1) 99 2 (.slice (some ⟨g, 0, none⟩) sn cap) sn (spans (truN n.ts l1 k)) ∧ Below w.heap.size w wr ∧ Blk wr w.heap.size #[.slice sa sn sc, .slice ta tn tc] 25) (fun _ i _ => sn - (intOf i).toNat)
    case atStart => exact ⟨0, g, cap, Nat.zero_le _, rfl, rfl, own6, hB5, kn5⟩
    case round =>
      clear own6 hB5 kn5 hgw
      obtain ⟨k, g, cap, hk, rfl, rfl, own, hB, kn⟩ := hrel
      have hsz := kn.lt
      by_cases hlt : k < sn
      · have hgl := own.lt g rfl
        go_upto_region 17 with (refine wpList_copy_spans rfl (.tmp 69) (.tmp 70) rfl wr.heap.size g sn cap (w.heap.size + 1) (truN n.ts l1 k) Z rfl rfl HZ.out (Blk.new wr _ _) (by omega) (own.alloc _) wr.heap.size (Nat.le_refl _) ?_; intro W5 own5 gr5)
        have hB5 : Below wr.heap.size wr W5 := ((Below.refl _ _).alloc (Nat.le_refl _) _).trans ⟨gr5.os, gr5.tape, gr5.output, gr5.size, fun j hj => gr5.block j (by simp; omega) (fun e => by injection e; omega)⟩
        have kn5 := kn.kept hB5
        have hBw5 := hB.trans (hB5.mono (by omega))
        have hsz5 : wr.heap.size < W5.heap.size := (own5.lt _ rfl).2
        have HNA := hide ((H.out.below hB).narrow HN.out sc (truN n.ts l1 k) wr.heap.size wr.heap.size sn ((hB5.mono (Nat.le_refl _))) (Nat.le_refl _) (by omega) (HB2.out k hlt) own5)
        have HTN : Hid (truN n.ts l1 (k + 1) = fixLo (narT n.ts (truN n.ts l1 k)) k) := hide rfl
        clear own5 gr5 own kn
        generalize narT n.ts (truN n.ts l1 k) = L2 at *
        generalize wr.heap.size = g2 at *
        obtain ⟨n0, n1, _⟩ := kn5.two
        have ln := kn5.lt
        go_wp2_with fail
        refine HNA.out.mono ?_
        rintro e W6 ⟨rfl, own6, gr6⟩
        have hB6 : Below w.heap.size w W6 := ⟨gr6.os.trans hBw5.os, gr6.tape.trans hBw5.tape, gr6.output.trans hBw5.output, Nat.le_trans hBw5.size gr6.size, fun j hj => (gr6.block j (by have := hBw5.size; omega) (fun e => by injection e; omega)).trans (hBw5.block j hj)⟩
        have kn6 : Blk W6 w.heap.size #[.slice sa sn sc, .slice ta tn tc] 25 := (gr6.block _ kn5.lt (fun e => by injection e; omega)).trans kn5
        clear HNA gr6 n0 n1 ln kn5 hBw5 hB5
        obtain ⟨c0, c1, f0, f1⟩ := own2_cell own6 hlt
        generalize hS2 : L2.getD k (0, 0) = S2 at *
        have HS2 := hide hS2
        clear hS2
        have own7 := own2_hi own6 hlt S2.1
        rw [HS2.out] at own7
        have HFX : Hid (L2.set k (S2.1, S2.1) = truN n.ts l1 (k + 1)) := hide (by rw [HTN.out, ← HS2.out]; rfl)
        rw [HFX.out] at own7
        have hB7 := hB6.setCell (p := ⟨g2, k * 2 + 1, none⟩) (show w.heap.size ≤ g2 by omega) (.int .i64 S2.1)
        have kn7 := kn6.other (p := ⟨g2, k * 2 + 1, none⟩) (show w.heap.size ≠ g2 by omega) (.int .i64 S2.1)
        go_wp2_with fail
        go_roundw
        case rel => exact ⟨k + 1, g2, sn, by omega, by go_num, rfl, Go.Joins.ownsRow_le own7 (by omega), hB7, kn7⟩
        case measure => simp [intOf]; omega
      · have hkn : k = sn := by omega
        have hlen : sn = (truN n.ts l1 k).length := own2_len own
        have HK : Hid ((truN n.ts l1 k) = truN n.ts l1 sn) := hide (by rw [hkn])
        rw [HK.out] at own hlen
        have HLEN := hide hlen
        obtain ⟨_, _, _, hsc2, hcm2⟩ := own2_blk own
        unfold maxLen at hcm2
        clear hkn hlen HK
        generalize truN n.ts l1 sn = L2 at *
        obtain ⟨i1, hi1, hw0, hw1, hw2⟩ := info_int
        have HI1 := hide hi1
        clear hi1 hmk
        have hgl := own.lt g rfl
        obtain ⟨Bs, hBs⟩ : ∃ b, b = wr.heap.size := ⟨_, rfl⟩
        have hBs1 : w.heap.size + 1 ≤ Bs := by omega
        have hr0 : Below Bs wr wr := Below.refl _ _
        have hBs2 : Bs ≤ wr.heap.size := by omega
        obtain ⟨wo, hwo⟩ : ∃ wo, wo = wr := ⟨_, rfl⟩
        have hr1 : Below Bs wo wr := by rw [hwo]; exact hr0
        have own' : wo.ownsRow (w.heap.size + 1) 99 2 (.slice (some ⟨g, 0, none⟩) sn cap) sn (spans L2) := by rw [hwo]; exact own
        have hBo : Below w.heap.size w wo := by rw [hwo]; exact hB
        have hBs3 : Bs = wo.heap.size := by rw [hwo]; exact hBs
        clear hBs hwo own hB kn hr0
        go_wp2_with fail
        go_loopw [11, 90] (fun v i wr => ∃ k : Nat, k ≤ sn ∧ i = .int .i64 (k : Int) ∧ wr.ownsRow Bs 3 1 v k (ints ((L2.take k).map (·.1))) ∧ Below Bs wo wr ∧ Bs ≤ wr.heap.size) (fun _ i _ => sn - (intOf i).toNat)
        case atStart => exact ⟨0, Nat.zero_le _, rfl, World.ownsRow_nil _ _ _ _, hr1, hBs2⟩
        case round =>
          clear hr1 hBs2
          obtain ⟨k, hk, rfl, own, hB, hsz⟩ := hrel
          by_cases hlt : k < sn
          · obtain ⟨c0, c1, _, _⟩ := own2_cell (own_kept own' (hBs3 ▸ hB)) hlt
            have HTK := hide (lo_take (L := L2) (k := k) (by rw [← HLEN.out]; exact hlt))
            have HOW := hide own
            clear own
            generalize L2.getD k (0, 0) = S at *
            obtain ⟨x, y⟩ := S
            dsimp only at c0 c1 HTK
            go_wp2_with (
              at_builtin
              refine wpList_append_lies _ rfl (.tmp 94) (.tmp 98) 38 rfl Bs 3 i1 (.int .i64 0) 1 8 under_ints HI1.out hw0 hw1 hw2 rfl (by decide) _ k (ints ((L2.take k).map (·.1))) rfl ((HOW.out.alloc _).alloc _) ⟨wr.heap.size + 1, 0, none⟩ 1 1 [.int .i64 x] rfl rfl
                (World.news_of_block (cs := #[.int .i64 x]) (t := 3) (fr := (0, 0)) (Blk.newAt (by simp) _ _)) (by intro u hu; simp at hu; subst hu; rfl) (by decide) (by unfold maxLen; omega) (by omega) (by simp; omega) _ rfl ?_
              intro g2 cap2 W6 ow6 gr6 at6 lt6)
            have hB6 : Below Bs wo W6 := below_own ((hB.alloc hsz _).alloc (by simp; omega) _) ((HOW.out.alloc _).alloc _) (Nat.le_refl _) (by simp; omega) gr6
            have hsz6 : Bs ≤ W6.heap.size := by have := gr6.size; simp at this; omega
            clear gr6 at6 lt6 c0 c1
            go_roundw
            case rel => exact ⟨k + 1, by omega, by go_num, by rw [HTK.out, ints_append]; exact ow6, hB6, hsz6⟩
            case measure => simp [intOf]; omega
          · have hkn : k = sn := by omega
            have HT : Hid ((L2.take k) = L2) := hide (List.take_of_length_le (by rw [hkn, HLEN.out]; exact Nat.le_refl _))
            rw [HT.out, hkn] at own
            have own2 := Go.Joins.ownsRow_le own (by omega : w.heap.size ≤ Bs)
            have HL2 : Hid ((L2.map (·.1)).length = sn) := hide (by rw [List.length_map, ← HLEN.out])
            obtain ⟨va, vcap, rfl, _, _⟩ := own_shape own2
            clear hkn own
            go_wp2_with fail
            refine bodyPost_ret (v := .tuple #[.slice va sn vcap, .int .i64 0]) (by simp [results, Try.results31, go_sem]) rfl ⟨_, by rw [HF.out], by rw [HF.out, HL2.out]; exact own2, hBo.trans (hB.mono (by omega))⟩

end Go.Proofs.Ytlbhnicengolfaa
