/-
  The law's log by numbers: Watch.made.
-/
import Derived.Test.YtjgebepeghgmcaaWatch2
namespace Go.Proofs.Ytjgebepeghgmcaa
open Go.RowKit Go.Shelf
set_option linter.unusedVariables false
set_option linter.unusedSimpArgs false

theorem own_stay {w w' : World} {base : Nat} {e : TypeId} {size n : Nat} {v : Value} {xs : List Value} (h : w.ownsRow base e size v n xs) (hk : ∀ k, v.ownBlock = some k → w'.heap[k]? = w.heap[k]?) : w'.ownsRow base e size v n xs := by
  refine ⟨h.1, h.2.imp id ?_⟩
  rintro ⟨g, cap, cur, rfl, r1, r2, r3⟩
  exact ⟨g, cap, cur, rfl, r1, (hk g rfl).trans r2, r3⟩

/-- A watch. -/
structure WNum where
  p0 : Int
  p1 : Int
  t : Nat → Int
  two : Bool
structure WNum.Ok (x : WNum) : Prop where
  p0 : 0 ≤ x.p0 ∧ x.p0 ≤ 255
  p1 : 0 ≤ x.p1 ∧ x.p1 ≤ 255
  t : ∀ i, 0 ≤ x.t i ∧ x.t i ≤ 255
def WNum.lo (x : WNum) : Int := 3 + x.p0 % 3
def WNum.hi (x : WNum) : Int := x.lo + x.p1 % 4
def WNum.at : WNum → Nat → Int
  | _, 0 => 0
  | x, k + 1 => x.at k + x.t (2 * k) % 5 + x.t (2 * k + 1) % 2 + 1
def WNum.span (x : WNum) (k : Nat) : Int × Int := (x.at k + x.t (2 * k) % 5, x.at k + x.t (2 * k) % 5 + x.t (2 * k + 1) % 2)
def WNum.ps (x : WNum) (k : Nat) : List (Int × Int) := (List.range k).map x.span
def WNum.n (x : WNum) : Nat := if x.two then 2 else 3
def WNum.log (x : WNum) : PLog := ⟨x.lo, x.hi, x.ps x.n⟩
def WNum.val (x : WNum) : Value := .agg #[.int .u8 x.p0, .int .u8 x.p1, .int .u8 (x.t 0), .int .u8 (x.t 1), .int .u8 (x.t 2), .int .u8 (x.t 3), .int .u8 (x.t 4), .int .u8 (x.t 5), .bool x.two]

theorem spans_append : ∀ (a b : List (Int × Int)), spans (a ++ b) = spans a ++ spans b
  | [], b => rfl
  | p :: a, b => by simp [spans, spans_append a b]
theorem WNum.ps_succ (x : WNum) (k : Nat) : x.ps (k + 1) = x.ps k ++ [x.span k] := by simp [WNum.ps, List.range_succ]
theorem WNum.ps_len (x : WNum) (k : Nat) : (x.ps k).length = k := by simp [WNum.ps]

theorem WNum.at_bound {x : WNum} (h : x.Ok) : ∀ k : Nat, 0 ≤ x.at k ∧ x.at k ≤ 6 * (k : Int)
  | 0 => by simp [WNum.at]
  | k + 1 => by
    have := at_bound h k
    have h1 := h.t (2 * k)
    have h2 := h.t (2 * k + 1)
    simp only [WNum.at]
    omega

theorem info_span0 : (Try.prog.info? 23).map (fun i => (i.zero, i.size, i.bytes)) = some (some (.agg #[.int .i64 0, .int .i64 0]), 2, 16) := by kernel_rfl
theorem under_spans : Try.prog.underlying 24 = some (.slice 23) := by kernel_rfl
theorem info_span : ∃ i : TypeInfo, Try.prog.info? 23 = some i ∧ i.zero = some (.agg #[.int .i64 0, .int .i64 0]) ∧ i.size = 2 ∧ i.bytes = 16 := info_parts info_span0

/-- What the loop of made holds between two rounds. -/
structure MadeI (x : WNum) (w : World) (k : Nat) (v : Value) (wr : World) : Prop where
  b0 : Blk wr w.heap.size #[.int .u8 x.p0, .int .u8 x.p1, .int .u8 (x.t 0), .int .u8 (x.t 1), .int .u8 (x.t 2), .int .u8 (x.t 3), .int .u8 (x.t 4), .int .u8 (x.t 5), .bool x.two] 53
  b1 : Blk wr (w.heap.size + 1) #[.int .i64 0, .int .i64 0, .slice none 0 0] 26
  b2 : Blk wr (w.heap.size + 1 + 1) #[.int .i64 x.lo, .int .i64 x.hi, v] 26
  own : wr.ownsRow (w.heap.size + 3) 23 2 v k (spans (x.ps k))
  be : Below w.heap.size w wr
  sz : w.heap.size + 3 ≤ wr.heap.size

theorem MadeI.next {x : WNum} {w : World} {k g cap : Nat} {v : Value} {wr wr' : World} (h : MadeI x w k v wr)
    (ho : wr'.ownsRow (w.heap.size + 3) 23 2 (.slice (some ⟨g, 0, none⟩) (k + 1) cap) (k + 1) (spans (x.ps k) ++ [.int .i64 (x.span k).1, .int .i64 (x.span k).2])) (hg : wr.grownBy wr' v.ownBlock) :
    MadeI x w (k + 1) (.slice (some ⟨g, 0, none⟩) (k + 1) cap) (wr'.setCell ⟨w.heap.size + 1 + 1, 2, none⟩ (.slice (some ⟨g, 0, none⟩) (k + 1) cap)) := by
  have keep : ∀ j, j < w.heap.size + 3 → wr'.heap[j]? = wr.heap[j]? := fun j hj => hg.block j (by have := h.sz; omega) (fun e => by have := (h.own.lt j e.symm).1; omega)
  have hgb := (ho.lt g rfl).1
  refine ⟨?_, ?_, ?_, ?_, ?_, ?_⟩
  · exact Blk.other (p := ⟨w.heap.size + 1 + 1, 2, none⟩) ((keep _ (by omega)).trans h.b0) (by show w.heap.size ≠ w.heap.size + 1 + 1; omega) _
  · exact Blk.other (p := ⟨w.heap.size + 1 + 1, 2, none⟩) ((keep _ (by omega)).trans h.b1) (by show w.heap.size + 1 ≠ w.heap.size + 1 + 1; omega) _
  · exact Blk.set ((keep _ (by omega)).trans h.b2 : Blk wr' _ _ _) 2 _
  · have e : spans (x.ps (k + 1)) = spans (x.ps k) ++ [.int .i64 (x.span k).1, .int .i64 (x.span k).2] := by rw [WNum.ps_succ, spans_append]; rfl
    rw [e]
    exact own_stay ho (fun j hj => Below.heap_setCell _ _ _ _ (by
      have := (ho.lt j hj).1
      show j ≠ w.heap.size + 1 + 1
      omega))
  · refine ⟨hg.os.trans h.be.os, hg.tape.trans h.be.tape, hg.output.trans h.be.output, Nat.le_trans h.be.size (by have := hg.size; simpa [World.setCell] using this), fun j hj => ?_⟩
    exact (Below.heap_setCell _ _ _ _ (by show j ≠ w.heap.size + 1 + 1; omega)).trans ((keep j (by omega)).trans (h.be.block j hj))
  · have := hg.size
    have := h.sz
    simp [World.setCell]
    omega

set_option maxRecDepth 100000 in
set_option maxHeartbeats 2000000 in
theorem made_any (x : WNum) (w : World) (hx : x.Ok) :
    Calls Try.prog 27 #[x.val] w fun e w' => ∃ ad cap, e = .returned (.agg #[.int .i64 x.lo, .int .i64 x.hi, .slice (some ad) x.n cap]) ∧ x.n ≤ cap ∧ Row w' w'.heap.size (some ad) (spans x.log.ps) ∧ Below w.heap.size w w' := by
  have HX := hide hx
  obtain ⟨a1, a2⟩ := hx.p0
  obtain ⟨b1, b2⟩ := hx.p1
  have c0 := hx.t 0
  have c1 := hx.t 1
  have c2 := hx.t 2
  have c3 := hx.t 3
  have c4 := hx.t 4
  have c5 := hx.t 5
  have HLO : Hid (x.lo = 3 + x.p0 % 3) := hide rfl
  have HHI : Hid (x.hi = x.lo + x.p1 % 4) := hide rfl
  have hlo : 3 ≤ x.lo ∧ x.lo ≤ 5 := by unfold WNum.lo; omega
  have HV : Hid (x.val = .agg #[.int .u8 x.p0, .int .u8 x.p1, .int .u8 (x.t 0), .int .u8 (x.t 1), .int .u8 (x.t 2), .int .u8 (x.t 3), .int .u8 (x.t 4), .int .u8 (x.t 5), .bool x.two]) := hide rfl
  rw [HV.out]
  clear hx
  generalize hP0 : x.p0 = p0 at *
  generalize hP1 : x.p1 = p1 at *
  have HP0 := hide hP0
  have HP1 := hide hP1
  clear hP0 hP1 HV
  go_enter Try.func27, Try.ntmps27
  go_wp2_with fail
  generalize hW : World.alloc (World.alloc (World.alloc w _) _) _ = V
  have M0 : MadeI x w 0 (.slice none 0 0) V := by
    rw [← hW]
    refine ⟨?_, ?_, ?_, World.ownsRow_nil _ _ _ _, (((Below.refl _ _).alloc (Nat.le_refl _) _).alloc (by simp) _).alloc (by simp; omega) _, by simp⟩
    · rw [HP0.out, HP1.out]; exact ((Blk.new w _ _).alloc _).alloc _
    · exact (by simpa using Blk.new (World.alloc w _) _ _ : Blk _ (w.heap.size + 1) _ _).alloc _
    · rw [HHI.out, HLO.out]; exact (by simpa using Blk.new (World.alloc (World.alloc w _) _) _ _)
  clear hW
  obtain ⟨i0, hi, hz0, hz1, hz2⟩ := info_span
  have HI := hide hi
  clear hi hlo
  have hn3 : x.n ≤ 3 := by unfold WNum.n; split <;> omega
  generalize hL : x.lo = L at *
  generalize hH : x.hi = H at *
  have HL := hide hL
  have HH := hide hH
  clear hL hH
  go_loopw [4, 5, 6, 7] (fun t i _ _ wr => ∃ (k : Nat) (v : Value), k ≤ x.n ∧ i = .int .i64 k ∧ t = .int .i64 (x.at k) ∧ MadeI x w k v wr) (fun _ i _ _ _ => 3 - (intOf i).toNat)
  case atStart => exact ⟨0, _, Nat.zero_le _, rfl, rfl, M0⟩
  case round =>
    clear M0
    obtain ⟨k, v, hk, rfl, rfl, hM⟩ := hrel
    have HM := hide hM
    have hm0 := hM.b0
    have hm1 := hM.b1
    have hm2 := hM.b2
    have hsz := hM.sz
    rw [HL.out, HH.out] at hm2
    have l0 := hm0.lt
    have l1 := hm1.lt
    have l2 := hm2.lt
    have n0 := hm0.cell 0
    have n1 := hm0.cell 1
    have n2 := hm0.cell 2
    have n3 := hm0.cell 3
    have n4 := hm0.cell 4
    have n5 := hm0.cell 5
    have n6 := hm0.cell 6
    have n7 := hm0.cell 7
    have n8 := hm0.cell 8
    simp at n0 n1 n2 n3 n4 n5 n6 n7 n8
    obtain ⟨q0, q1, q2, q3, q4, q5⟩ := hm2.three
    obtain ⟨r0, r1, r2, r3, r4, r5⟩ := hm1.three
    have hat := WNum.at_bound HX.out k
    clear hM hm0
    have hk3 : k = 0 ∨ k = 1 ∨ k = 2 ∨ k = 3 := by omega
    rcases hk3 with rfl | rfl | rfl | rfl
    · obtain ⟨va, vcap, rfl⟩ : ∃ va vcap, v = .slice va 0 vcap := by
        rcases HM.out.own.2 with ⟨rfl, h0⟩ | ⟨g, cp, cur, rfl, _⟩
        · exact ⟨none, 0, by simp at h0 ⊢⟩
        · exact ⟨_, _, rfl⟩
      have HSP : Hid (x.span 0 = (x.at 0 + x.t 0 % 5, x.at 0 + x.t 0 % 5 + x.t 1 % 2)) := hide rfl
      have HAT : Hid (x.at (0 + 1) = x.at 0 + x.t 0 % 5 + x.t 1 % 2 + 1) := hide rfl
      have hkn : Hid (0 + 1 ≤ x.n) := hide (by unfold WNum.n; split <;> omega)
      generalize x.at 0 = A at *
      generalize x.t 0 = T0 at *
      generalize x.t 1 = T1 at *
      have m0 : 0 ≤ T0 % 5 ∧ T0 % 5 < 5 := by omega
      have m1 : 0 ≤ T1 % 2 ∧ T1 % 2 < 2 := by omega
      go_wp2_with (
        at_builtin
        refine wpList_append_lies _ rfl (.tmp 57) (.tmp 61) 24 rfl (w.heap.size + 3) 23 i0 (.agg #[.int .i64 0, .int .i64 0]) 2 16 under_spans HI.out hz0 hz1 hz2 rfl (by decide) _ 0 _ rfl (HM.out.own.alloc _) ⟨_, 0, none⟩ 1 1 [.int .i64 (A + T0 % 5), .int .i64 (A + T0 % 5 + T1 % 2)] rfl rfl (World.news_of_block (World.alloc_heap_new _ _)) (by intro u hu; simp at hu; rcases hu with rfl | rfl <;> rfl) (by decide) (by unfold maxLen; omega) (by omega) (by simp; omega) _ rfl ?_
        intro g2 cap2 W6 ow6 gr6 at6 lt6
        have HM' : Hid (MadeI x w 0 (.slice va 0 vcap) (wr.alloc (.cells #[.int .i64 (A + T0 % 5), .int .i64 (A + T0 % 5 + T1 % 2)] 23))) := hide ⟨HM.out.b0.alloc _, HM.out.b1.alloc _, HM.out.b2.alloc _, HM.out.own.alloc _, HM.out.be.alloc HM.out.be.size _, by simp; omega⟩
        have HN := hide (HM'.out.next (by rw [HSP.out]; exact ow6) gr6)
        have d2 : Blk W6 (w.heap.size + 1 + 1) #[.int .i64 L, .int .i64 H, .slice va 0 vcap] 26 := (gr6.block _ (by simp; omega) (fun e => by have := (HM.out.own.lt _ e.symm).1; omega)).trans (hm2.alloc _)
        clear ow6 gr6 at6 lt6 q0 q1 q2 q3 q4 q5 r0 r1 r2 r3 r4 r5 n0 n1 n2 n3 n4 n5 n6 n7 n8 l0 l1 l2
        obtain ⟨q0, q1, q2, q3, q4, q5⟩ := d2.three
        have l2 := d2.lt)
      go_roundw
      case rel => exact ⟨0 + 1, _, hkn.out, by go_num, by rw [HAT.out], HN.out⟩
      case measure => simp [intOf]
    · obtain ⟨va, vcap, rfl⟩ : ∃ va vcap, v = .slice va 1 vcap := by
        rcases HM.out.own.2 with ⟨rfl, h0⟩ | ⟨g, cp, cur, rfl, _⟩
        · exact ⟨none, 0, by simp at h0 ⊢⟩
        · exact ⟨_, _, rfl⟩
      have HSP : Hid (x.span 1 = (x.at 1 + x.t 2 % 5, x.at 1 + x.t 2 % 5 + x.t 3 % 2)) := hide rfl
      have HAT : Hid (x.at (1 + 1) = x.at 1 + x.t 2 % 5 + x.t 3 % 2 + 1) := hide rfl
      have hkn : Hid (1 + 1 ≤ x.n) := hide (by unfold WNum.n; split <;> omega)
      generalize x.at 1 = A at *
      generalize x.t 2 = T0 at *
      generalize x.t 3 = T1 at *
      have m0 : 0 ≤ T0 % 5 ∧ T0 % 5 < 5 := by omega
      have m1 : 0 ≤ T1 % 2 ∧ T1 % 2 < 2 := by omega
      go_wp2_with (
        at_builtin
        refine wpList_append_lies _ rfl (.tmp 57) (.tmp 61) 24 rfl (w.heap.size + 3) 23 i0 (.agg #[.int .i64 0, .int .i64 0]) 2 16 under_spans HI.out hz0 hz1 hz2 rfl (by decide) _ 1 _ rfl (HM.out.own.alloc _) ⟨_, 0, none⟩ 1 1 [.int .i64 (A + T0 % 5), .int .i64 (A + T0 % 5 + T1 % 2)] rfl rfl (World.news_of_block (World.alloc_heap_new _ _)) (by intro u hu; simp at hu; rcases hu with rfl | rfl <;> rfl) (by decide) (by unfold maxLen; omega) (by omega) (by simp; omega) _ rfl ?_
        intro g2 cap2 W6 ow6 gr6 at6 lt6
        have HM' : Hid (MadeI x w 1 (.slice va 1 vcap) (wr.alloc (.cells #[.int .i64 (A + T0 % 5), .int .i64 (A + T0 % 5 + T1 % 2)] 23))) := hide ⟨HM.out.b0.alloc _, HM.out.b1.alloc _, HM.out.b2.alloc _, HM.out.own.alloc _, HM.out.be.alloc HM.out.be.size _, by simp; omega⟩
        have HN := hide (HM'.out.next (by rw [HSP.out]; exact ow6) gr6)
        have d2 : Blk W6 (w.heap.size + 1 + 1) #[.int .i64 L, .int .i64 H, .slice va 1 vcap] 26 := (gr6.block _ (by simp; omega) (fun e => by have := (HM.out.own.lt _ e.symm).1; omega)).trans (hm2.alloc _)
        clear ow6 gr6 at6 lt6 q0 q1 q2 q3 q4 q5 r0 r1 r2 r3 r4 r5 n0 n1 n2 n3 n4 n5 n6 n7 n8 l0 l1 l2
        obtain ⟨q0, q1, q2, q3, q4, q5⟩ := d2.three
        have l2 := d2.lt)
      go_roundw
      case rel => exact ⟨1 + 1, _, hkn.out, by go_num, by rw [HAT.out], HN.out⟩
      case measure => simp [intOf]
    · cases htw : x.two with
      | true =>
        rw [htw] at n8
        obtain ⟨g, cap, cur, rfl, hg1, hc, hle, -, -, htk⟩ : ∃ g cap cur, v = .slice (some ⟨g, 0, none⟩) 2 cap ∧ w.heap.size + 3 ≤ g ∧ wr.heap[g]? = some (.cells cur 23 (0, 0)) ∧ 2 ≤ cap ∧ True ∧ True ∧ cur.toList.take (2 * 2) = spans (x.ps 2) := by
          rcases HM.out.own.2 with ⟨_, h0⟩ | ⟨g, cp, cur, hv, hb, hc, hle, _, _, htk⟩
          · simp at h0
          · exact ⟨g, cp, cur, hv, hb, hc, hle, trivial, trivial, htk⟩
        have HROW : Hid (Row wr (g + 1) (some ⟨g, 0, none⟩) (spans (x.ps 2))) := hide (row_of_heap hc (by rw [spans_length, WNum.ps_len]; exact htk))
        have HG := hide hc
        have hglt : g < wr.heap.size := (Array.getElem?_eq_some_iff.1 hc).1
        have HNN : Hid (x.n = 2) := hide (by unfold WNum.n; rw [htw]; rfl)
        have hbe := HM.out.be
        clear hc htk
        go_wp2_with fail
        have e1 : Blk _ (w.heap.size + 1) #[.int .i64 L, .int .i64 H, .slice (some ⟨g, 0, none⟩) 2 cap] _ := ((hm1.set 0 (.int .i64 L)).set 1 (.int .i64 H)).set 2 (.slice (some ⟨g, 0, none⟩) 2 cap)
        have hBf := ((hbe.setCell (p := ⟨w.heap.size + 1, 0, none⟩) (Nat.le_succ _) (.int .i64 L)).setCell (p := ⟨w.heap.size + 1, 1, none⟩) (Nat.le_succ _) (.int .i64 H)).setCell (p := ⟨w.heap.size + 1, 2, none⟩) (Nat.le_succ _) (.slice (some ⟨g, 0, none⟩) 2 cap)
        have hrow : Row (((wr.setCell ⟨w.heap.size + 1, 0, none⟩ (.int .i64 L)).setCell ⟨w.heap.size + 1, 1, none⟩ (.int .i64 H)).setCell ⟨w.heap.size + 1, 2, none⟩ (.slice (some ⟨g, 0, none⟩) 2 cap)) (g + 1) (some ⟨g, 0, none⟩) (spans (x.ps 2)) := HROW.out.at fun k hk => by
          obtain ⟨_, ad, e, rfl⟩ := hk
          cases e
          exact (Below.heap_setCell _ _ _ _ (by show g ≠ _; dsimp only; omega)).trans ((Below.heap_setCell _ _ _ _ (by show g ≠ _; dsimp only; omega)).trans (Below.heap_setCell _ _ _ _ (by show g ≠ _; dsimp only; omega)))
        generalize hZ : World.setCell (World.setCell (World.setCell wr _ _) _ _) _ _ = Z at *
        have hzs : g + 1 ≤ Z.heap.size := by rw [← hZ]; simp [World.setCell]; omega
        refine bodyPost_ret (v := .agg #[.int .i64 L, .int .i64 H, .slice (some ⟨g, 0, none⟩) 2 cap]) (by simp [results, Try.results27, go_sem, e1.three]) rfl ⟨⟨g, 0, none⟩, cap, by rw [HNN.out, HL.out, HH.out], by rw [HNN.out]; exact hle, ?_, hBf⟩
        show Row Z Z.heap.size _ (spans (x.ps x.n))
        rw [HNN.out]
        exact hrow.mono hzs
      | false =>
        rw [htw] at n8
        obtain ⟨va, vcap, rfl⟩ : ∃ va vcap, v = .slice va 2 vcap := by
          rcases HM.out.own.2 with ⟨rfl, h0⟩ | ⟨g, cp, cur, rfl, _⟩
          · exact ⟨none, 0, by simp at h0 ⊢⟩
          · exact ⟨_, _, rfl⟩
        have HSP : Hid (x.span 2 = (x.at 2 + x.t 4 % 5, x.at 2 + x.t 4 % 5 + x.t 5 % 2)) := hide rfl
        have HAT : Hid (x.at (2 + 1) = x.at 2 + x.t 4 % 5 + x.t 5 % 2 + 1) := hide rfl
        have hkn : Hid (2 + 1 ≤ x.n) := hide (by unfold WNum.n; rw [htw]; decide)
        generalize x.at 2 = A at *
        generalize x.t 4 = T0 at *
        generalize x.t 5 = T1 at *
        have m0 : 0 ≤ T0 % 5 ∧ T0 % 5 < 5 := by omega
        have m1 : 0 ≤ T1 % 2 ∧ T1 % 2 < 2 := by omega
        go_wp2_with (
          at_builtin
          refine wpList_append_lies _ rfl (.tmp 57) (.tmp 61) 24 rfl (w.heap.size + 3) 23 i0 (.agg #[.int .i64 0, .int .i64 0]) 2 16 under_spans HI.out hz0 hz1 hz2 rfl (by decide) _ 2 _ rfl (HM.out.own.alloc _) ⟨_, 0, none⟩ 1 1 [.int .i64 (A + T0 % 5), .int .i64 (A + T0 % 5 + T1 % 2)] rfl rfl (World.news_of_block (World.alloc_heap_new _ _)) (by intro u hu; simp at hu; rcases hu with rfl | rfl <;> rfl) (by decide) (by unfold maxLen; omega) (by omega) (by simp; omega) _ rfl ?_
          intro g2 cap2 W6 ow6 gr6 at6 lt6
          have HM' : Hid (MadeI x w 2 (.slice va 2 vcap) (wr.alloc (.cells #[.int .i64 (A + T0 % 5), .int .i64 (A + T0 % 5 + T1 % 2)] 23))) := hide ⟨HM.out.b0.alloc _, HM.out.b1.alloc _, HM.out.b2.alloc _, HM.out.own.alloc _, HM.out.be.alloc HM.out.be.size _, by simp; omega⟩
          have HN := hide (HM'.out.next (by rw [HSP.out]; exact ow6) gr6)
          have d2 : Blk W6 (w.heap.size + 1 + 1) #[.int .i64 L, .int .i64 H, .slice va 2 vcap] 26 := (gr6.block _ (by simp; omega) (fun e => by have := (HM.out.own.lt _ e.symm).1; omega)).trans (hm2.alloc _)
          clear ow6 gr6 at6 lt6 q0 q1 q2 q3 q4 q5 r0 r1 r2 r3 r4 r5 n0 n1 n2 n3 n4 n5 n6 n7 n8 l0 l1 l2
          obtain ⟨q0, q1, q2, q3, q4, q5⟩ := d2.three
          have l2 := d2.lt)
        go_roundw
        case rel => exact ⟨2 + 1, _, hkn.out, by go_num, by rw [HAT.out], HN.out⟩
        case measure => simp [intOf]
    · obtain ⟨g, cap, cur, rfl, hg1, hc, hle, -, -, htk⟩ : ∃ g cap cur, v = .slice (some ⟨g, 0, none⟩) 3 cap ∧ w.heap.size + 3 ≤ g ∧ wr.heap[g]? = some (.cells cur 23 (0, 0)) ∧ 3 ≤ cap ∧ True ∧ True ∧ cur.toList.take (3 * 2) = spans (x.ps 3) := by
        rcases HM.out.own.2 with ⟨_, h0⟩ | ⟨g, cp, cur, hv, hb, hc, hle, _, _, htk⟩
        · simp at h0
        · exact ⟨g, cp, cur, hv, hb, hc, hle, trivial, trivial, htk⟩
      have HROW : Hid (Row wr (g + 1) (some ⟨g, 0, none⟩) (spans (x.ps 3))) := hide (row_of_heap hc (by rw [spans_length, WNum.ps_len]; exact htk))
      have HG := hide hc
      have hglt : g < wr.heap.size := (Array.getElem?_eq_some_iff.1 hc).1
      have HNN : Hid (x.n = 3) := hide (by omega)
      have hbe := HM.out.be
      clear hc htk
      go_wp2_with fail
      have e1 : Blk _ (w.heap.size + 1) #[.int .i64 L, .int .i64 H, .slice (some ⟨g, 0, none⟩) 3 cap] _ := ((hm1.set 0 (.int .i64 L)).set 1 (.int .i64 H)).set 2 (.slice (some ⟨g, 0, none⟩) 3 cap)
      have hBf := ((hbe.setCell (p := ⟨w.heap.size + 1, 0, none⟩) (Nat.le_succ _) (.int .i64 L)).setCell (p := ⟨w.heap.size + 1, 1, none⟩) (Nat.le_succ _) (.int .i64 H)).setCell (p := ⟨w.heap.size + 1, 2, none⟩) (Nat.le_succ _) (.slice (some ⟨g, 0, none⟩) 3 cap)
      have hrow : Row (((wr.setCell ⟨w.heap.size + 1, 0, none⟩ (.int .i64 L)).setCell ⟨w.heap.size + 1, 1, none⟩ (.int .i64 H)).setCell ⟨w.heap.size + 1, 2, none⟩ (.slice (some ⟨g, 0, none⟩) 3 cap)) (g + 1) (some ⟨g, 0, none⟩) (spans (x.ps 3)) := HROW.out.at fun k hk => by
        obtain ⟨_, ad, e, rfl⟩ := hk
        cases e
        exact (Below.heap_setCell _ _ _ _ (by show g ≠ _; dsimp only; omega)).trans ((Below.heap_setCell _ _ _ _ (by show g ≠ _; dsimp only; omega)).trans (Below.heap_setCell _ _ _ _ (by show g ≠ _; dsimp only; omega)))
      generalize hZ : World.setCell (World.setCell (World.setCell wr _ _) _ _) _ _ = Z at *
      have hzs : g + 1 ≤ Z.heap.size := by rw [← hZ]; simp [World.setCell]; omega
      refine bodyPost_ret (v := .agg #[.int .i64 L, .int .i64 H, .slice (some ⟨g, 0, none⟩) 3 cap]) (by simp [results, Try.results27, go_sem, e1.three]) rfl ⟨⟨g, 0, none⟩, cap, by rw [HNN.out, HL.out, HH.out], by rw [HNN.out]; exact hle, ?_, hBf⟩
      show Row Z Z.heap.size _ (spans (x.ps x.n))
      rw [HNN.out]
      exact hrow.mono hzs

end Go.Proofs.Ytjgebepeghgmcaa
