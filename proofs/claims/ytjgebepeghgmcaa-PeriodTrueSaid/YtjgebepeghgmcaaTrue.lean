/-
  PeriodTrue: the walk.
-/
import Derived.Test.YtjgebepeghgmcaaPlain11
import Derived.Test.YtjgebepeghgmcaaTried
namespace Go.Proofs.Ytjgebepeghgmcaa
open Go.RowKit Go.Shelf
set_option linter.unusedVariables false
set_option linter.unusedSimpArgs false

/-! ### before -/
structure BeI (xs ys : List Int) (k : Nat) : Prop where
  is : beforeR (xs.drop k) (ys.drop k) = beforeR xs ys
set_option maxRecDepth 100000 in
set_option maxHeartbeats 1000000 in
theorem before_any (xs ys : List Int) (a b : Option Addr) (n cap m cap' B B' : Nat) (w : World) (hn : n = xs.length) (hm : m = ys.length) (hnm : n = m) (hl : n ≤ 1000000000) (h : Row w B a (ints xs)) (h' : Row w B' b (ints ys)) :
    Calls Try.prog 34 #[.slice a n cap, .slice b m cap'] w fun e w' => e = .returned (.bool (beforeR xs ys)) ∧ w = w' := by
  subst hnm
  have HN := hide hn
  have HM := hide hm
  clear hn hm
  go_enter Try.func34, Try.ntmps34
  go_wp2
  go_loop [9] (fun i => ∃ k : Nat, k ≤ n ∧ i = .int .i64 (k : Int) ∧ BeI xs ys k) (fun i => n - (intOf i).toNat)
  case atStart => exact ⟨0, Nat.zero_le _, rfl, ⟨by simp⟩⟩
  case round =>
    obtain ⟨k, hk, rfl, hI⟩ := hrel
    by_cases hlt : k < n
    · have hkx : k < xs.length := by rw [← HN.out]; exact hlt
      have hky : k < ys.length := by rw [← HM.out]; exact hlt
      obtain ⟨ba, oa, rfl, hba, hca⟩ := h.int (by omega)
      obtain ⟨bb, ob, rfl, hbb, hcb⟩ := h'.int (by omega)
      have ca := hca k hkx
      have cb := hcb k hky
      have e := hI.is
      rw [List.drop_eq_getElem_cons hkx, List.drop_eq_getElem_cons hky, ← iat_eq xs k hkx, ← iat_eq ys k hky] at e
      rw [show ∀ (a b : Int) (r t : List Int), beforeR (a :: r) (b :: t) = if a ≠ b then decide (a < b) else beforeR r t from fun _ _ _ _ => rfl] at e
      clear hca hcb h h' hba hbb hkx hky hI
      generalize iat xs k = x at *
      generalize iat ys k = y at *
      by_cases he : x = y
      · rw [if_neg (by simpa using he)] at e
        have E := hide e
        have ht : (x != y) = false := by simp [he]
        clear he e
        go_wp2
        go_round
        case rel => exact ⟨k + 1, by omega, by go_num, ⟨E.out⟩⟩
        case measure => simp [intOf]; omega
      · rw [if_pos he] at e
        have E := hide e
        have ht : (x != y) = true := by simp [he]
        clear he e
        go_wp2
        go_ret
        exact ⟨by rw [← E.out]; rfl, rfl⟩
    · have E : Hid (beforeR xs ys = false) := hide (by
        have e := hI.is
        rw [List.drop_of_length_le (by rw [← HN.out]; omega)] at e
        rw [← e]
        rfl)
      go_wp2
      go_ret
      exact ⟨by rw [E.out]; rfl, rfl⟩

/-- The truth that the arguments tell. -/
def tnum (sx fi : Int) (cs ws : List Int) : TNum := ⟨60 + sx, fi, (cs.take 4).map fun c => 1 + c % 30, fun i => if i < ws.length then iat ws i % 4 else 0⟩
theorem tnum_ok {sx fi : Int} {cs ws : List Int} (h1 : 0 ≤ sx ∧ sx ≤ 255) (h2 : 0 ≤ fi ∧ fi ≤ 255) (h3 : ∀ c ∈ cs, 0 ≤ c ∧ c ≤ 255) (h4 : ∀ c ∈ ws, 0 ≤ c ∧ c ≤ 255) : (tnum sx fi cs ws).Ok := by
  refine ⟨by show 60 ≤ 60 + sx ∧ 60 + sx ≤ 315; omega, h2, fun n hn => ?_, ?_, fun i => ?_⟩
  · obtain ⟨c, hc, rfl⟩ := List.mem_map.1 hn
    have := h3 c (List.mem_of_mem_take hc)
    omega
  · show ((cs.take 4).map _).length ≤ 4
    simp
    omega
  · show 0 ≤ (if i < ws.length then iat ws i % 4 else 0) ∧ (if i < ws.length then iat ws i % 4 else 0) ≤ 3
    split
    · omega
    · omega
/-- What the first loop holds: k spans, j counts. -/
structure TrI (y : TNum) (w : World) (base p11 : Nat) (k j : Nat) (v11 v12 : Value) (W : World) : Prop where
  be : Below w.heap.size w W
  b11 : Blk W p11 #[.int .i64 (y.p / 6 - 2), .int .i64 (y.p / 6 + 3), v11] 26
  own11 : W.ownsRow base 23 2 v11 k (spans (y.ps k))
  own12 : W.ownsRow base 3 1 v12 j (ints (y.ns.take j))
  sep : ∀ g, v11.ownBlock = some g → v12.ownBlock ≠ some g
  lt : p11 < base
  ge : w.heap.size ≤ p11
  sz : base ≤ W.heap.size
theorem TrI.kept {y : TNum} {w : World} {base p11 k j : Nat} {v11 v12 : Value} {W W' : World} (h : TrI y w base p11 k j v11 v12 W) (hb : Below W.heap.size W W') : TrI y w base p11 k j v11 v12 W' :=
  ⟨h.be.trans (hb.mono h.be.size), h.b11.kept hb, own_stay h.own11 (fun k hk => hb.block k (h.own11.lt k hk).2), own_stay h.own12 (fun k hk => hb.block k (h.own12.lt k hk).2), h.sep, h.lt, h.ge, Nat.le_trans h.sz hb.size⟩
theorem TrI.next11 {y : TNum} {w : World} {base p11 k j : Nat} {v11 v12 : Value} {W W' : World} (h : TrI y w base p11 k j v11 v12 W) {g c : Nat}
    (ho : W'.ownsRow base 23 2 (.slice (some ⟨g, 0, none⟩) (k + 1) c) (k + 1) (spans (y.ps k) ++ [.int .i64 (y.span k).1, .int .i64 (y.span k).2])) (hg : W.grownBy W' v11.ownBlock) (ha : v11.ownBlock = some g ∨ g = W.heap.size) :
    TrI y w base p11 (k + 1) j (.slice (some ⟨g, 0, none⟩) (k + 1) c) v12 (W'.setCell ⟨p11, 2, none⟩ (.slice (some ⟨g, 0, none⟩) (k + 1) c)) := by
  have keep : ∀ i, i < base → W'.heap[i]? = W.heap[i]? := fun i hi => hg.block i (by have := h.sz; omega) (fun e => by have := (h.own11.lt i e.symm).1; omega)
  have hlt := h.lt
  have hge := h.ge
  refine ⟨?_, Blk.set ((keep _ h.lt).trans h.b11 : Blk W' _ _ _) 2 _, ?_, ?_, ?_, h.lt, h.ge, ?_⟩
  · refine ⟨hg.os.trans h.be.os, hg.tape.trans h.be.tape, hg.output.trans h.be.output, Nat.le_trans h.be.size (by have := hg.size; simpa [World.setCell] using this), fun i hi => ?_⟩
    exact (Below.heap_setCell _ _ _ _ (by show i ≠ p11; omega)).trans ((keep i (by omega)).trans (h.be.block i hi))
  · have e : spans (y.ps (k + 1)) = spans (y.ps k) ++ [.int .i64 (y.span k).1, .int .i64 (y.span k).2] := by rw [TNum.ps_succ, spans_append]; rfl
    rw [e]
    exact own_stay ho (fun i hi => Below.heap_setCell _ _ _ _ (by
      have := (ho.lt i hi).1
      show i ≠ p11
      omega))
  · refine own_stay (own_stay h.own12 fun i hi => hg.block i (h.own12.lt i hi).2 (fun e => h.sep i e.symm hi)) (fun i hi => Below.heap_setCell _ _ _ _ (by
      have := (h.own12.lt i hi).1
      show i ≠ p11
      omega))
  · intro i hi hi'
    obtain rfl : g = i := by injection hi
    rcases ha with ha | ha
    · exact h.sep _ ha hi'
    · have := (h.own12.lt _ hi').2
      omega
  · have := hg.size
    have := h.sz
    simp [World.setCell]
    omega
theorem ints_snoc (xs : List Int) (j : Nat) (hj : j < xs.length) : ints (xs.take (j + 1)) = ints (xs.take j) ++ [.int .i64 (iat xs j)] := by
  rw [take_snoc xs j hj]
  simp [ints]
theorem TrI.next12 {y : TNum} {w : World} {base p11 k j : Nat} {v11 v12 : Value} {W W' : World} (h : TrI y w base p11 k j v11 v12 W) {g c : Nat} (hj : j < y.ns.length)
    (ho : W'.ownsRow base 3 1 (.slice (some ⟨g, 0, none⟩) (j + 1) c) (j + 1) (ints (y.ns.take j) ++ [.int .i64 (iat y.ns j)])) (hg : W.grownBy W' v12.ownBlock) (ha : v12.ownBlock = some g ∨ g = W.heap.size) :
    TrI y w base p11 k (j + 1) v11 (.slice (some ⟨g, 0, none⟩) (j + 1) c) W' := by
  have keep : ∀ i, i < base → W'.heap[i]? = W.heap[i]? := fun i hi => hg.block i (by have := h.sz; omega) (fun e => by have := (h.own12.lt i e.symm).1; omega)
  have hlt := h.lt
  have hge := h.ge
  refine ⟨?_, (keep _ h.lt).trans h.b11, own_stay h.own11 fun i hi => hg.block i (h.own11.lt i hi).2 (fun e => h.sep i hi e.symm), ?_, ?_, h.lt, h.ge, Nat.le_trans h.sz hg.size⟩
  · exact ⟨hg.os.trans h.be.os, hg.tape.trans h.be.tape, hg.output.trans h.be.output, Nat.le_trans h.be.size hg.size, fun i hi => (keep i (by omega)).trans (h.be.block i hi)⟩
  · rw [ints_snoc _ _ hj]
    exact ho
  · intro i hi hi'
    obtain rfl : g = i := by injection hi'
    rcases ha with ha | ha
    · exact h.sep _ hi ha
    · have := (h.own11.lt _ hi).2
      omega
theorem own_forms' {w : World} {base size n : Nat} {e : TypeId} {v : Value} {xs : List Value} (h : w.ownsRow base e size v n xs) : ∃ a c, v = .slice a n c := by
  rcases h.2 with ⟨rfl, h0⟩ | ⟨g, cap, cur, rfl, _⟩
  · exact ⟨none, 0, by rw [h0]⟩
  · exact ⟨_, _, rfl⟩
theorem own_row' {w : World} {base size n : Nat} {e : TypeId} {v : Value} {xs : List Value} (h : w.ownsRow base e size v n xs) (h0 : 0 < n) : ∃ g cap, v = .slice (some ⟨g, 0, none⟩) n cap ∧ n ≤ cap ∧ Row w w.heap.size (some ⟨g, 0, none⟩) xs := by
  rcases h.2 with ⟨rfl, h1⟩ | ⟨g, cap, cur, rfl, _, hc, hle, _, _, htk⟩
  · omega
  · refine ⟨g, cap, rfl, hle, (row_of_heap hc ?_).mono (Array.getElem?_eq_some_iff.1 hc).1⟩
    rw [h.1]
    exact htk
theorem counts_at (l : PLog) (lo hi : Int) (hlo : lo = l.lo) (hhi : hi = l.hi) (a : Option Addr) (n cap : Nat) (w : World) (hn : n = l.ps.length) (hn1 : n ≤ 1000000000) (hp : Row w w.heap.size a (spans l.ps)) :
    Calls Try.prog 15 #[.agg #[.int .i64 lo, .int .i64 hi, .slice a n cap]] w fun e w' =>
      ∃ v, e = .returned (.tuple #[v, .int .i64 (countsR l).2]) ∧ Rows2 w' v (countsR l).1 ∧ Below w.heap.size w w' := by
  subst hlo
  subst hhi
  exact countsF_any l a n cap w hn hn1 hp
theorem period_at {l : PLog} {cs : List Int} {A1 A2 B1 B2 : Int} (he : periodR l cs = ((A1, A2), (B1, B2), 0)) (lo hi : Int) (hlo : lo = l.lo) (hhi : hi = l.hi) (a ca : Option Addr) (n cap m ccap : Nat) (w : World) (hn : n = l.ps.length) (hm : m = cs.length) (hn1 : n ≤ 1000000000) (hm1 : m ≤ 1000000000) (hmc : m ≤ ccap)
    (hp : Row w w.heap.size a (spans l.ps)) (hc : Row w w.heap.size ca (ints cs)) :
    Calls Try.prog 29 #[.agg #[.int .i64 lo, .int .i64 hi, .slice a n cap], .slice ca m ccap] w fun e w' =>
      e = .returned (.tuple #[.agg #[.int .i64 A1, .int .i64 A2], .agg #[.int .i64 B1, .int .i64 B2], .int .i64 0]) ∧ Below w.heap.size w w' := by
  subst hlo
  subst hhi
  have h := periodF_any l cs a ca n cap m ccap w hn hm hn1 hm1 hmc hp hc
  rw [he] at h
  exact h
theorem less_x {y : TNum} {sx A1 A2 : Int} {W : World} (hp : y.p = 60 + sx) (h1 : 0 ≤ sx ∧ sx ≤ 255) (ha : Small 2000000000 A1 ∧ Small 2000000000 A2) (h : lessR (y.p, 6) (A1, A2) = false) (X : Ext W) :
    Calls Try.prog 32 #[.agg #[.int .i64 (60 + sx), .int .i64 6], .agg #[.int .i64 A1, .int .i64 A2]] X.w fun e w' => e = .returned (.bool false) ∧ ∃ x, w' = Ext.w (W := W) x := by
  have := less_any (60 + sx, 6) (A1, A2) X.w (by unfold Small; dsimp only; omega) (by unfold Small; dsimp only; omega) ha.1 ha.2
  rw [← hp, h, hp] at this
  exact Ext.call this
theorem less_x' {y : TNum} {sx A1 A2 : Int} {W : World} (hp : y.p = 60 + sx) (h1 : 0 ≤ sx ∧ sx ≤ 255) (ha : Small 2000000000 A1 ∧ Small 2000000000 A2) (h : lessR (A1, A2) (y.p, 6) = false) (X : Ext W) :
    Calls Try.prog 32 #[.agg #[.int .i64 A1, .int .i64 A2], .agg #[.int .i64 (60 + sx), .int .i64 6]] X.w fun e w' => e = .returned (.bool false) ∧ ∃ x, w' = Ext.w (W := W) x := by
  have := less_any (A1, A2) (60 + sx, 6) X.w ha.1 ha.2 (by unfold Small; dsimp only; omega) (by unfold Small; dsimp only; omega)
  rw [← hp, h, hp] at this
  exact Ext.call this
theorem alloc_at' (w : World) (o : Obj) (g : Nat) (hg : g = w.heap.size) : (w.alloc o).heap[g]? = some o := by
  subst hg
  exact World.alloc_heap_new w o
/-- A row of bytes. -/
theorem Row.u8 {w : World} {B : Nat} {a : Option Addr} {xs : List Int} (h : Row w B a (xs.map (Value.int .u8))) {i : Nat} (hi : i < xs.length) : ∃ b off, a = some ⟨b, off, none⟩ ∧ w.cell? ⟨b, off + i, none⟩ = some (.int .u8 (iat xs i)) := by
  rcases h with h | ⟨b, off, rfl, hb, h⟩
  · simp at h
    subst h
    simp at hi
  · refine ⟨b, off, rfl, ?_⟩
    rw [h i (by simpa using hi)]
    simp [List.getD, iat, hi]

theorem info_int1 : (Try.prog.info? 3).map (fun i => (i.zero, i.size, i.bytes)) = some (some (.int .i64 0), 1, 8) := by kernel_rfl
theorem under_ints1 : Try.prog.underlying 42 = some (.slice 3) := by kernel_rfl
theorem info_int2 : ∃ i : TypeInfo, Try.prog.info? 3 = some i ∧ i.zero = some (.int .i64 0) ∧ i.size = 1 ∧ i.bytes = 8 := info_parts info_int1

set_option maxRecDepth 100000 in
set_option maxHeartbeats 4000000 in
theorem ptrue_any (sx fi : Int) (cs ws : List Int) (ca wa : Option Addr) (n ccap m wcap : Nat) (w : World) (h1 : 0 ≤ sx ∧ sx ≤ 255) (h2 : 0 ≤ fi ∧ fi ≤ 255) (h3 : ∀ c ∈ cs, 0 ≤ c ∧ c ≤ 255) (h4 : ∀ c ∈ ws, 0 ≤ c ∧ c ≤ 255)
    (hn : n = cs.length) (hm : m = ws.length) (hn1 : n ≤ 9223372036854775807) (hm1 : m ≤ 9223372036854775807) (hc : Row w w.heap.size ca (cs.map (Value.int .u8))) (hw : Row w w.heap.size wa (ws.map (Value.int .u8))) :
    Calls Try.prog 7 #[.int .u8 sx, .int .u8 fi, .slice ca n ccap, .slice wa m wcap] w fun e w' => e = .returned (.bool true) ∧ Below w.heap.size w w' := by
  obtain ⟨y, hy⟩ : ∃ y, y = tnum sx fi cs ws := ⟨_, rfl⟩
  have hyo : y.Ok := by rw [hy]; exact tnum_ok h1 h2 h3 h4
  have HY := hide hyo
  have hL : y.ns.length = min 4 n := by rw [hy, hn]; simp [tnum]
  have hp : y.p = 60 + sx := by rw [hy]; rfl
  have HP := hide hp
  have hat : y.at 0 = fi := by rw [y.at_zero, hy]; rfl
  have HAT := hide hat
  have HNS : Hid (∀ i, i < y.ns.length → i < n → iat y.ns i = 1 + iat cs i % 30) := hide (fun i hi hi' => by
    rw [hy] at hi ⊢
    have hic : i < cs.length := by omega
    have hi4 : i < 4 := by
      have : ((tnum sx fi cs ws).ns).length ≤ 4 := by simp [tnum]; omega
      omega
    unfold iat tnum
    simp [List.getD, hic, hi4])
  have HW1 : Hid (∀ i, i < m → y.w i = iat ws i % 4) := hide (fun i hi => by rw [hy]; show (if i < ws.length then _ else _) = _; rw [if_pos (by omega)])
  have HW0 : Hid (∀ i, ¬ i < m → y.w i = 0) := hide (fun i hi => by rw [hy]; show (if i < ws.length then _ else _) = _; rw [if_neg (by omega)])
  have HCB : Hid (∀ i, i < n → 0 ≤ iat cs i ∧ iat cs i ≤ 255) := hide (fun i hi => h3 _ (by rw [iat_eq cs i (by omega)]; exact List.getElem_mem _))
  have HWB : Hid (∀ i, i < m → 0 ≤ iat ws i ∧ iat ws i ≤ 255) := hide (fun i hi => h4 _ (by rw [iat_eq ws i (by omega)]; exact List.getElem_mem _))
  have HN := hide hn
  have HM := hide hm
  obtain ⟨L, hLL⟩ : ∃ L, L = y.ns.length := ⟨_, rfl⟩
  have HL := hide hLL
  have hL4 : L ≤ 4 ∧ L ≤ n ∧ (L = 4 ∨ L = n) := by omega
  clear hyo hL hp hat hn hm hy h3 h4 hLL
  go_enter Try.func7, Try.ntmps7
  go_wp2_with fail
  generalize hW : World.alloc w _ = V
  have M0 : TrI y w V.heap.size w.heap.size 0 0 (.slice none 0 0) (.slice none 0 0) V := by
    rw [← hW]
    refine ⟨(Below.refl _ _).alloc (Nat.le_refl _) _, ?_, World.ownsRow_nil _ _ _ _, World.ownsRow_nil _ _ _ _, (fun g hg => by cases hg), by simp, Nat.le_refl _, Nat.le_refl _⟩
    rw [HP.out]
    exact Blk.new _ _ _
  obtain ⟨p11, hp11⟩ : ∃ p11, p11 = w.heap.size := ⟨_, rfl⟩
  rw [← hp11]
  have M1 : TrI y w V.heap.size p11 0 0 (.slice none 0 0) (.slice none 0 0) V := by rw [hp11]; exact M0
  clear hW M0 hp11
  generalize V.heap.size = base at *
  obtain ⟨i0, hi, hz0, hz1, hz2⟩ := info_span
  have HI := hide hi
  obtain ⟨i1, hj, hy0, hy1, hy2⟩ := info_int2
  have HJ := hide hj
  clear hi hj
  go_loopw [10, 12, 13] (fun t v i wr => ∃ (k j : Nat) (v11 v12 : Value), k ≤ L + 1 ∧ i = .int .i64 (k : Int) ∧ v = v12 ∧ t = .int .i64 (y.at j) ∧ j ≤ L ∧ (k ≤ L → j = k) ∧ (L < k → j = L) ∧ TrI y w base p11 k j v11 v12 wr) (fun _ _ i _ => L + 1 - (intOf i).toNat)
  case atStart => exact ⟨0, 0, _, _, Nat.zero_le _, rfl, rfl, by rw [HAT.out], Nat.zero_le _, fun _ => rfl, fun h => by omega, M1⟩
  case round =>
    clear M1
    obtain ⟨k, j, v11, v12, hk, rfl, rfl, rfl, hjL, hjk, hjk', M⟩ := hrel
    by_cases hkL : k ≤ L
    · obtain rfl := hjk hkL
      clear hjk hjk' hjL
      have hjl : j ≤ y.ns.length := by rw [← HL.out]; exact hkL
      have sa := TNum.at_bound HY.out j hjl
      have ss := TNum.span_ok HY.out hjl
      have hwb := HY.out.w j
      have hS : Hid (y.span j = (max 0 (y.at j / 6 - y.w j / 2), (y.at j + 5) / 6 + y.w j - y.w j / 2)) := hide rfl
      have hkn : j ≤ n := by omega
      have hk5 : j < 5 := by omega
      clear hjl
      obtain ⟨slo, hslo⟩ : ∃ a, a = (y.span j).1 := ⟨_, rfl⟩
      obtain ⟨shi, hshi⟩ : ∃ a, a = (y.span j).2 := ⟨_, rfl⟩
      rw [← hslo, ← hshi] at ss
      have HSLO := hide hslo
      have HSHI := hide hshi
      clear hslo hshi
      obtain ⟨a11, c11, rfl⟩ := own_forms' M.own11
      obtain ⟨a12, c12, rfl⟩ := own_forms' M.own12
      have s11 := M.b11.three
      have l11 := M.b11.lt
      have hsz := M.sz
      have hbl := M.lt
      have HL11 := hide (fun g (hg : (Value.slice a11 j c11).ownBlock = some g) => M.own11.lt g hg)
      by_cases hjm : j < m
      · have e1 := HW1.out j hjm
        have e2 := HWB.out j hjm
        obtain ⟨b, off, rfl, hcell⟩ := (hw.below M.be (Nat.le_refl _)).u8 (i := j) (by rw [← HM.out]; exact hjm)
        have HE1 := hide e1
        clear e1
        go_upto_region 13 with (fail)
        rw [← HE1.out, show (if y.w j / 2 < y.at j / 6 then y.at j / 6 - y.w j / 2 else 0) = slo by rw [HSLO.out, hS.out]; dsimp only; split <;> omega, show (y.at j + 5) / 6 + y.w j - y.w j / 2 = shi by rw [HSHI.out, hS.out]]
        clear hcell e2
        by_cases hjL : j < L
        · have hjn : j < n := by omega
          have hj4 : j < 4 := by omega
          have hjy : j < y.ns.length := by rw [← HL.out]; exact hjL
          obtain ⟨b2, off2, rfl, hcell2⟩ := (hc.below M.be (Nat.le_refl _)).u8 (i := j) (by rw [← HN.out]; exact hjn)
          have hcb := HCB.out j hjn
          have hb2 : b2 < wr.heap.size := World.block_lt_of_cell? wr _ hcell2
          have hb2w : b2 < w.heap.size := by
            rcases hc with h0 | ⟨b', off', e', hlt', _⟩
            · have := congrArg List.length h0
              simp at this
              have := HN.out
              rw [‹cs = []›] at this
              simp at this
              omega
            · cases e'
              exact hlt'
          have hni := TNum.iat_ok HY.out hjy
          have HIA : Hid (iat y.ns j = 1 + iat cs j % 30) := hide (HNS.out j hjy hjn)
          have hmul : 0 ≤ (1 + iat cs j % 30) * (60 + sx) ∧ (1 + iat cs j % 30) * (60 + sx) ≤ 30 * 315 := ⟨Int.mul_nonneg (by omega) (by omega), Int.mul_le_mul (by omega) (by omega) (by omega) (by omega)⟩
          have HAN : Hid (y.at (j + 1) = y.at j + (1 + iat cs j % 30) * (60 + sx)) := hide (by rw [y.at_step hjy, HIA.out, HP.out])
          have HJY := hide hjy
          have hgep := M.ge
          clear hjy
          go_wp2_with (first
            | (at_builtin
               refine wpList_append_lies _ rfl (.tmp 75) (.tmp 79) 24 rfl base 23 i0 (.agg #[.int .i64 0, .int .i64 0]) 2 16 under_spans HI.out hz0 hz1 hz2 rfl (by decide) _ j _ rfl (M.own11.alloc _) ⟨_, 0, none⟩ 1 1 [.int .i64 slo, .int .i64 shi] rfl rfl (World.news_of_block (alloc_at' _ _ _ (by simp [World.setCell]))) (by intro u hu; simp at hu; rcases hu with rfl | rfl <;> rfl) (by decide) (by unfold maxLen; omega) (by omega) (by simp; omega) _ rfl ?_
               intro g2 cap2 W6 ow6 gr6 at6 lt6
               have M' := M.kept ((Below.refl _ _).alloc (Nat.le_refl _) (.cells #[.int .i64 slo, .int .i64 shi] 23))
               have M9 := M'.next11 (by rw [← HSLO.out, ← HSHI.out]; exact ow6) gr6 at6
               have b11 : Blk W6 p11 #[.int .i64 (y.p / 6 - 2), .int .i64 (y.p / 6 + 3), .slice a11 j c11] 26 := (gr6.block _ M'.b11.lt (fun e => by have := (HL11.out _ e.symm).1; omega)).trans M'.b11
               have hcell3 : (W6.setCell ⟨p11, 2, none⟩ (.slice (some ⟨g2, 0, none⟩) (j + 1) cap2)).cell? ⟨b2, off2 + j, none⟩ = some (.int .u8 (iat cs j)) := (M9.be.cell (p := ⟨b2, off2 + j, none⟩) hb2w).trans ((M.be.cell (p := ⟨b2, off2 + j, none⟩) hb2w).symm.trans hcell2)
               clear M M' ow6 gr6 at6 hcell2 hb2 s11 l11 hsz
               have s11 := b11.three
               have l11 := b11.lt
               have n11 : ¬ b2 = p11 := by omega
               clear b11)
            | (at_builtin
               refine wpList_append_lies _ rfl (.tmp 102) (.tmp 104) 42 rfl base 3 i1 (.int .i64 0) 1 8 under_ints1 HJ.out hy0 hy1 hy2 rfl (by decide) _ j _ rfl (M9.own12.alloc _) ⟨_, 0, none⟩ 1 1 [.int .i64 (1 + iat cs j % 30)] rfl rfl (World.news_of_block (alloc_at' _ _ _ (by simp [World.setCell]))) (by intro u hu; simp at hu; subst hu; rfl) (by decide) (by unfold maxLen; omega) (by omega) (by have := M9.sz; simp at this ⊢; omega) _ rfl ?_
               intro g3 cap3 W7 ow7 gr7 at7 lt7
               have M' := M9.kept ((Below.refl _ _).alloc (Nat.le_refl _) (.cells #[.int .i64 (1 + iat cs j % 30)] 3))
               have M10 := M'.next12 HJY.out (by rw [HIA.out]; exact ow7) gr7 at7
               clear M9 M' ow7 gr7 at7 s11 l11 hcell3))
          exact ⟨⟨j + 1, j + 1, _, _, by omega, by go_num, rfl, by rw [HAN.out], by omega, fun _ => rfl, fun h => by omega, M10⟩, by simp [intOf]; omega⟩
        · obtain rfl : j = L := by omega
          by_cases hjn : j < n
          · have hj4 : ¬ j < 4 := by omega
            go_wp2_with (at_builtin
                         refine wpList_append_lies _ rfl (.tmp 75) (.tmp 79) 24 rfl base 23 i0 (.agg #[.int .i64 0, .int .i64 0]) 2 16 under_spans HI.out hz0 hz1 hz2 rfl (by decide) _ j _ rfl (M.own11.alloc _) ⟨_, 0, none⟩ 1 1 [.int .i64 slo, .int .i64 shi] rfl rfl (World.news_of_block (alloc_at' _ _ _ (by simp [World.setCell]))) (by intro u hu; simp at hu; rcases hu with rfl | rfl <;> rfl) (by decide) (by unfold maxLen; omega) (by omega) (by simp; omega) _ rfl ?_
                         intro g2 cap2 W6 ow6 gr6 at6 lt6
                         have M' := M.kept ((Below.refl _ _).alloc (Nat.le_refl _) (.cells #[.int .i64 slo, .int .i64 shi] 23))
                         have M9 := M'.next11 (by rw [← HSLO.out, ← HSHI.out]; exact ow6) gr6 at6
                         have b11 : Blk W6 p11 #[.int .i64 (y.p / 6 - 2), .int .i64 (y.p / 6 + 3), .slice a11 j c11] 26 := (gr6.block _ M'.b11.lt (fun e => by have := (HL11.out _ e.symm).1; omega)).trans M'.b11
                         clear M M' ow6 gr6 at6 s11 l11 hsz
                         have s11 := b11.three
                         have l11 := b11.lt
                         clear b11)
            exact ⟨⟨j + 1, j, _, _, by omega, by go_num, rfl, rfl, by omega, fun h => by omega, fun _ => rfl, M9⟩, by first | (simp [intOf]; done) | (simp [intOf]; omega)⟩
          · have hj4 : j < 5 := by omega
            go_wp2_with (at_builtin
                         refine wpList_append_lies _ rfl (.tmp 75) (.tmp 79) 24 rfl base 23 i0 (.agg #[.int .i64 0, .int .i64 0]) 2 16 under_spans HI.out hz0 hz1 hz2 rfl (by decide) _ j _ rfl (M.own11.alloc _) ⟨_, 0, none⟩ 1 1 [.int .i64 slo, .int .i64 shi] rfl rfl (World.news_of_block (alloc_at' _ _ _ (by simp [World.setCell]))) (by intro u hu; simp at hu; rcases hu with rfl | rfl <;> rfl) (by decide) (by unfold maxLen; omega) (by omega) (by simp; omega) _ rfl ?_
                         intro g2 cap2 W6 ow6 gr6 at6 lt6
                         have M' := M.kept ((Below.refl _ _).alloc (Nat.le_refl _) (.cells #[.int .i64 slo, .int .i64 shi] 23))
                         have M9 := M'.next11 (by rw [← HSLO.out, ← HSHI.out]; exact ow6) gr6 at6
                         have b11 : Blk W6 p11 #[.int .i64 (y.p / 6 - 2), .int .i64 (y.p / 6 + 3), .slice a11 j c11] 26 := (gr6.block _ M'.b11.lt (fun e => by have := (HL11.out _ e.symm).1; omega)).trans M'.b11
                         clear M M' ow6 gr6 at6 s11 l11 hsz
                         have s11 := b11.three
                         have l11 := b11.lt
                         clear b11)
            exact ⟨⟨j + 1, j, _, _, by omega, by go_num, rfl, rfl, by omega, fun h => by omega, fun _ => rfl, M9⟩, by first | (simp [intOf]; done) | (simp [intOf]; omega)⟩
      · have e1 := HW0.out j hjm
        have HE1 := hide e1
        clear e1
        go_upto_region 13 with (fail)
        rw [show (if 0 < y.at j / 6 then y.at j / 6 else 0) = slo by rw [HSLO.out, hS.out, HE1.out]; dsimp only; split <;> omega, show (y.at j + 5) / 6 = shi by rw [HSHI.out, hS.out, HE1.out]; dsimp only; omega]
        by_cases hjL : j < L
        · have hjn : j < n := by omega
          have hj4 : j < 4 := by omega
          have hjy : j < y.ns.length := by rw [← HL.out]; exact hjL
          obtain ⟨b2, off2, rfl, hcell2⟩ := (hc.below M.be (Nat.le_refl _)).u8 (i := j) (by rw [← HN.out]; exact hjn)
          have hcb := HCB.out j hjn
          have hb2 : b2 < wr.heap.size := World.block_lt_of_cell? wr _ hcell2
          have hb2w : b2 < w.heap.size := by
            rcases hc with h0 | ⟨b', off', e', hlt', _⟩
            · have := congrArg List.length h0
              simp at this
              have := HN.out
              rw [‹cs = []›] at this
              simp at this
              omega
            · cases e'
              exact hlt'
          have hni := TNum.iat_ok HY.out hjy
          have HIA : Hid (iat y.ns j = 1 + iat cs j % 30) := hide (HNS.out j hjy hjn)
          have hmul : 0 ≤ (1 + iat cs j % 30) * (60 + sx) ∧ (1 + iat cs j % 30) * (60 + sx) ≤ 30 * 315 := ⟨Int.mul_nonneg (by omega) (by omega), Int.mul_le_mul (by omega) (by omega) (by omega) (by omega)⟩
          have HAN : Hid (y.at (j + 1) = y.at j + (1 + iat cs j % 30) * (60 + sx)) := hide (by rw [y.at_step hjy, HIA.out, HP.out])
          have HJY := hide hjy
          have hgep := M.ge
          clear hjy
          go_wp2_with (first
            | (at_builtin
               refine wpList_append_lies _ rfl (.tmp 75) (.tmp 79) 24 rfl base 23 i0 (.agg #[.int .i64 0, .int .i64 0]) 2 16 under_spans HI.out hz0 hz1 hz2 rfl (by decide) _ j _ rfl (M.own11.alloc _) ⟨_, 0, none⟩ 1 1 [.int .i64 slo, .int .i64 shi] rfl rfl (World.news_of_block (alloc_at' _ _ _ (by simp [World.setCell]))) (by intro u hu; simp at hu; rcases hu with rfl | rfl <;> rfl) (by decide) (by unfold maxLen; omega) (by omega) (by simp; omega) _ rfl ?_
               intro g2 cap2 W6 ow6 gr6 at6 lt6
               have M' := M.kept ((Below.refl _ _).alloc (Nat.le_refl _) (.cells #[.int .i64 slo, .int .i64 shi] 23))
               have M9 := M'.next11 (by rw [← HSLO.out, ← HSHI.out]; exact ow6) gr6 at6
               have b11 : Blk W6 p11 #[.int .i64 (y.p / 6 - 2), .int .i64 (y.p / 6 + 3), .slice a11 j c11] 26 := (gr6.block _ M'.b11.lt (fun e => by have := (HL11.out _ e.symm).1; omega)).trans M'.b11
               have hcell3 : (W6.setCell ⟨p11, 2, none⟩ (.slice (some ⟨g2, 0, none⟩) (j + 1) cap2)).cell? ⟨b2, off2 + j, none⟩ = some (.int .u8 (iat cs j)) := (M9.be.cell (p := ⟨b2, off2 + j, none⟩) hb2w).trans ((M.be.cell (p := ⟨b2, off2 + j, none⟩) hb2w).symm.trans hcell2)
               clear M M' ow6 gr6 at6 hcell2 hb2 s11 l11 hsz
               have s11 := b11.three
               have l11 := b11.lt
               have n11 : ¬ b2 = p11 := by omega
               clear b11)
            | (at_builtin
               refine wpList_append_lies _ rfl (.tmp 102) (.tmp 104) 42 rfl base 3 i1 (.int .i64 0) 1 8 under_ints1 HJ.out hy0 hy1 hy2 rfl (by decide) _ j _ rfl (M9.own12.alloc _) ⟨_, 0, none⟩ 1 1 [.int .i64 (1 + iat cs j % 30)] rfl rfl (World.news_of_block (alloc_at' _ _ _ (by simp [World.setCell]))) (by intro u hu; simp at hu; subst hu; rfl) (by decide) (by unfold maxLen; omega) (by omega) (by have := M9.sz; simp at this ⊢; omega) _ rfl ?_
               intro g3 cap3 W7 ow7 gr7 at7 lt7
               have M' := M9.kept ((Below.refl _ _).alloc (Nat.le_refl _) (.cells #[.int .i64 (1 + iat cs j % 30)] 3))
               have M10 := M'.next12 HJY.out (by rw [HIA.out]; exact ow7) gr7 at7
               clear M9 M' ow7 gr7 at7 s11 l11 hcell3))
          exact ⟨⟨j + 1, j + 1, _, _, by omega, by go_num, rfl, by rw [HAN.out], by omega, fun _ => rfl, fun h => by omega, M10⟩, by simp [intOf]; omega⟩
        · obtain rfl : j = L := by omega
          by_cases hjn : j < n
          · have hj4 : ¬ j < 4 := by omega
            go_wp2_with (at_builtin
                         refine wpList_append_lies _ rfl (.tmp 75) (.tmp 79) 24 rfl base 23 i0 (.agg #[.int .i64 0, .int .i64 0]) 2 16 under_spans HI.out hz0 hz1 hz2 rfl (by decide) _ j _ rfl (M.own11.alloc _) ⟨_, 0, none⟩ 1 1 [.int .i64 slo, .int .i64 shi] rfl rfl (World.news_of_block (alloc_at' _ _ _ (by simp [World.setCell]))) (by intro u hu; simp at hu; rcases hu with rfl | rfl <;> rfl) (by decide) (by unfold maxLen; omega) (by omega) (by simp; omega) _ rfl ?_
                         intro g2 cap2 W6 ow6 gr6 at6 lt6
                         have M' := M.kept ((Below.refl _ _).alloc (Nat.le_refl _) (.cells #[.int .i64 slo, .int .i64 shi] 23))
                         have M9 := M'.next11 (by rw [← HSLO.out, ← HSHI.out]; exact ow6) gr6 at6
                         have b11 : Blk W6 p11 #[.int .i64 (y.p / 6 - 2), .int .i64 (y.p / 6 + 3), .slice a11 j c11] 26 := (gr6.block _ M'.b11.lt (fun e => by have := (HL11.out _ e.symm).1; omega)).trans M'.b11
                         clear M M' ow6 gr6 at6 s11 l11 hsz
                         have s11 := b11.three
                         have l11 := b11.lt
                         clear b11)
            exact ⟨⟨j + 1, j, _, _, by omega, by go_num, rfl, rfl, by omega, fun h => by omega, fun _ => rfl, M9⟩, by first | (simp [intOf]; done) | (simp [intOf]; omega)⟩
          · have hj4 : j < 5 := by omega
            go_wp2_with (at_builtin
                         refine wpList_append_lies _ rfl (.tmp 75) (.tmp 79) 24 rfl base 23 i0 (.agg #[.int .i64 0, .int .i64 0]) 2 16 under_spans HI.out hz0 hz1 hz2 rfl (by decide) _ j _ rfl (M.own11.alloc _) ⟨_, 0, none⟩ 1 1 [.int .i64 slo, .int .i64 shi] rfl rfl (World.news_of_block (alloc_at' _ _ _ (by simp [World.setCell]))) (by intro u hu; simp at hu; rcases hu with rfl | rfl <;> rfl) (by decide) (by unfold maxLen; omega) (by omega) (by simp; omega) _ rfl ?_
                         intro g2 cap2 W6 ow6 gr6 at6 lt6
                         have M' := M.kept ((Below.refl _ _).alloc (Nat.le_refl _) (.cells #[.int .i64 slo, .int .i64 shi] 23))
                         have M9 := M'.next11 (by rw [← HSLO.out, ← HSHI.out]; exact ow6) gr6 at6
                         have b11 : Blk W6 p11 #[.int .i64 (y.p / 6 - 2), .int .i64 (y.p / 6 + 3), .slice a11 j c11] 26 := (gr6.block _ M'.b11.lt (fun e => by have := (HL11.out _ e.symm).1; omega)).trans M'.b11
                         clear M M' ow6 gr6 at6 s11 l11 hsz
                         have s11 := b11.three
                         have l11 := b11.lt
                         clear b11)
            exact ⟨⟨j + 1, j, _, _, by omega, by go_num, rfl, rfl, by omega, fun h => by omega, fun _ => rfl, M9⟩, by first | (simp [intOf]; done) | (simp [intOf]; omega)⟩
    · obtain rfl : k = L + 1 := by omega
      obtain rfl := hjk' (by omega)
      clear hjk hjk' hjL hk hkL HI HJ hz0 hz1 hz2 hy0 hy1 hy2
      obtain ⟨g11, c11, rfl, -, r11⟩ := own_row' M.own11 (by omega)
      have hpl : j + 1 = y.log.ps.length := by
        show j + 1 = (y.ps (y.ns.length + 1)).length
        rw [y.ps_len, HL.out]
      have hps : y.ps (j + 1) = y.log.ps := by
        show _ = y.ps (y.ns.length + 1)
        rw [HL.out]
      rw [hps] at r11
      have HPL := hide hpl
      clear hpl hps
      have hor : (n : Int) < j + 1 ∨ (5 ≤ (j : Int) + 1 ∧ (j : Int) + 1 ≤ n) := by omega
      rcases hor with hor | ⟨hor1, hor2⟩
      all_goals
        obtain ⟨lo, hlo⟩ : ∃ lo, lo = y.p / 6 - 2 := ⟨_, rfl⟩
        obtain ⟨hi, hhi⟩ : ∃ hi, hi = y.p / 6 + 3 := ⟨_, rfl⟩
        have k11 := M.b11
        rw [← hlo, ← hhi] at k11
        have HLO : Hid (lo = y.log.lo) := hide hlo
        have HHI : Hid (hi = y.log.hi) := hide hhi
        have hbe := M.be
        clear hlo hhi
        have u := k11.three
        have z := k11.lt
        by_cases h0 : j = 0
        · first
            | (exfalso; omega)
            | (have HNO := hide (TNum.none HY.out (List.length_eq_zero_iff.1 (by rw [← HL.out]; exact h0)))
               have hj2 : (j : Int) + 1 < 2 := by omega
               clear M h0
               go_wp2_with fail
               refine (counts_at y.log lo hi HLO.out HHI.out _ (j + 1) c11 _ HPL.out (by omega) r11).mono ?_
               rw [HNO.out]
               rintro e W2 ⟨v18, rfl, hr18, hb2⟩
               clear u z hr18
               go_wp2_with (go_at_call 13; refine (works_any _).mono ?_; rintro e W9 ⟨rfl, hb9⟩)
               go_ret
               have hb3 := hb2.trans (hb9.mono hb2.size)
               exact ⟨rfl, hbe.trans (hb3.mono hbe.size)⟩)
        · have hj1 : 1 ≤ y.ns.length := by rw [← HL.out]; omega
          have hj2 : decide ((j : Int) + 1 < 2) = false := by simp; omega
          have hj3 : 1 ≤ j := by omega
          obtain ⟨g12, c12, rfl, hc12, r12⟩ := own_row' M.own12 (by omega)
          rw [HL.out, List.take_length] at r12
          obtain ⟨A, B, TE⟩ := TNum.ends HY.out hj1
          obtain ⟨A1, A2⟩ := A
          obtain ⟨B1, B2⟩ := B
          have ta := TE.a2
          have tb := TE.b2
          have tsa := TE.sa
          have tsb := TE.sb
          dsimp only at ta tb tsa tsb
          have HJ1 := hide hj1
          clear M hj1 h0
          go_wp2_with fail
          refine (period_at TE.is lo hi HLO.out HHI.out _ _ (j + 1) c11 j c12 _ HPL.out HL.out (by omega) (by omega) hc12 r11 r12).mono ?_
          rintro e W2 ⟨rfl, hb2⟩
          have hbn : Below W2.heap.size W2 ((W2.alloc (.cells #[.int .i64 A1, .int .i64 A2] 41)).alloc (.cells #[.int .i64 B1, .int .i64 B2] 41)) := ((Below.refl _ _).alloc (Nat.le_refl _) _).alloc (by simp) _
          have hb2' := hb2.trans (hbn.mono hb2.size)
          have S2 := (((⟨Below.refl _ _, fun p hp => by obtain rfl := List.mem_singleton.1 hp; exact k11⟩ : BSt wr [(p11, #[.int .i64 lo, .int .i64 hi, .slice (some ⟨g11, 0, none⟩) (j + 1) c11], 26)] wr).kept hb2).new #[.int .i64 A1, .int .i64 A2] 41).new #[.int .i64 B1, .int .i64 B2] 41
          rw [World.size_alloc] at S2
          have r11' := (r11.below hb2' (Nat.le_refl _)).mono hb2'.size
          have r12' := (r12.below hb2' (Nat.le_refl _)).mono hb2'.size
          have hbe' := hbe.trans (hb2'.mono hbe.size)
          clear u z k11 r11 r12 hbe hb2 hb2' hbn
          go_wp2_with fail
          generalize World.alloc (World.alloc W2 _) _ = X2 at *
          generalize W2.heap.size = P2 at *
          have q1 := (S2.boxes _ (by simp : (P2, #[Value.int .i64 A1, Value.int .i64 A2], 41) ∈ _)).two
          have q2 := (S2.boxes _ (by simp : (P2 + 1, #[Value.int .i64 B1, Value.int .i64 B2], 41) ∈ _)).two
          have l1 := (S2.boxes _ (by simp : (P2, #[Value.int .i64 A1, Value.int .i64 A2], 41) ∈ _)).lt
          have l2 := (S2.boxes _ (by simp : (P2 + 1, #[Value.int .i64 B1, Value.int .i64 B2], 41) ∈ _)).lt
          have hX := @Ext.cell X2
          have HPT := hide (fun X : Ext X2 => Ext.call (part_any (60 + sx) 6 X.w))
          have HLE1 : Hid (∀ X : Ext X2, Calls Try.prog 32 #[.agg #[.int .i64 (60 + sx), .int .i64 6], .agg #[.int .i64 A1, .int .i64 A2]] X.w fun e w' => e = .returned (.bool false) ∧ ∃ x, w' = Ext.w (W := X2) x) := hide (less_x HP.out h1 tsa TE.lo)
          have HLE2 : Hid (∀ X : Ext X2, Calls Try.prog 32 #[.agg #[.int .i64 B1, .int .i64 B2], .agg #[.int .i64 (60 + sx), .int .i64 6]] X.w fun e w' => e = .returned (.bool false) ∧ ∃ x, w' = Ext.w (W := X2) x) := hide (less_x' HP.out h1 tsb TE.hi)
          refine wp_region_all (Ext.w (W := X2)) (by kernel_rfl) (by kernel_rfl) (Ext.start X2) ?_
          repeat (first | go_big_quiet_skip | quiet_step (first | (go_at_call 33; exact HPT.out _) | (go_at_call 32; with_reducible exact HLE1.out _) | (go_at_call 32; with_reducible exact HLE2.out _)))
          refine wpQuiet_nil ?_
          intro X
          have S3 := S2.kept X.below
          have r11 := (r11'.below X.below (Nat.le_refl _)).mono X.below.size
          have r12 := (r12'.below X.below (Nat.le_refl _)).mono X.below.size
          have hbe := hbe'.trans (X.below.mono hbe'.size)
          clear hX HPT HLE1 HLE2 q1 q2 l1 l2 S2 r11' r12' hbe' TE tsa tsb
          generalize X.w = W3 at *
          clear X
          have u := (S3.boxes _ (by simp : (p11, #[Value.int .i64 lo, Value.int .i64 hi, Value.slice (some ⟨g11, 0, none⟩) (j + 1) c11], 26) ∈ _)).three
          have z := (S3.boxes _ (by simp : (p11, #[Value.int .i64 lo, Value.int .i64 hi, Value.slice (some ⟨g11, 0, none⟩) (j + 1) c11], 26) ∈ _)).lt
          go_wp2_with fail
          refine (counts_at y.log lo hi HLO.out HHI.out _ (j + 1) c11 _ HPL.out (by omega) r11).mono ?_
          rcases TNum.counts HY.out HJ1.out with e16 | ⟨e0, hmem, h500⟩
          · rw [e16]
            rintro e W4 ⟨v23, rfl, hr23, hb4⟩
            have hbe4 := hbe.trans (hb4.mono hbe.size)
            clear e16 hr23 hb4 u z S3 r11 r12
            go_wp2_with (go_at_call 13; refine (works_any _).mono ?_; rintro e W9 ⟨rfl, hb9⟩)
            go_ret
            exact ⟨rfl, hbe4.trans (hb9.mono hbe4.size)⟩
          · rw [e0]
            rintro e W4 ⟨v23, rfl, hr23, hb4⟩
            dsimp only at hr23
            have hbe4 := hbe.trans (hb4.mono hbe.size)
            have r12' := (r12.below hb4 (Nat.le_refl _)).mono hb4.size
            obtain ⟨va, vcap, hv, hvl⟩ := hr23.form
            obtain ⟨N, hN⟩ : ∃ N, N = (allC y.log).length := ⟨_, rfl⟩
            rw [← hN] at hv hvl h500
            have HNN := hide hN
            have HMEM := hide hmem
            subst hv
            clear e0 hb4 u z S3 r11 r12 hbe hN hmem hvl
            go_wp2_with fail
            go_loopw [24, 171] (fun f i wr => ∃ k : Nat, k ≤ N ∧ i = .int .i64 (k : Int) ∧ f = .bool (decide (y.ns ∈ (allC y.log).take k)) ∧ Below w.heap.size w wr ∧ Rows2 wr (.slice va N vcap) (allC y.log) ∧ Row wr wr.heap.size (some ⟨g12, 0, none⟩) (ints y.ns)) (fun _ i _ => N - (intOf i).toNat)
            case atStart => exact ⟨0, Nat.zero_le _, rfl, by simp, hbe4, hr23, r12'⟩
            case round =>
              clear hbe4 hr23 r12'
              obtain ⟨k, hk, rfl, rfl, hbe, hrw, r12⟩ := hrel
              by_cases hkN : k < N
              · have hkl : k < (allC y.log).length := by rw [← HNN.out]; exact hkN
                obtain ⟨c, hcc⟩ : ∃ c, (allC y.log)[k]? = some c := ⟨_, List.getElem?_eq_getElem hkl⟩
                obtain ⟨vb, voff, vg, vcp, hva, vcell, vle, vrow⟩ := hrw.at_ hcc
                have hcl : c.length = j := by
                  have h1 := ((mem_allC (TNum.lok HY.out HJ1.out) c).1 (List.mem_of_getElem? hcc)).1
                  have h2 := HPL.out
                  omega
                have hsn : (allC y.log).take (k + 1) = (allC y.log).take k ++ [c] := by
                  rw [List.take_add_one, hcc]
                  rfl
                have HSN := hide hsn
                rw [hcl] at vcell vle
                have HCL := hide hcl
                have HCC := hide hcc
                subst hva
                clear hkl hsn hcl hcc
                by_cases hin : y.ns ∈ (allC y.log).take k
                · have HN : Hid (decide (y.ns ∈ (allC y.log).take (k + 1)) = true) := hide (by rw [HSN.out]; simp [hin])
                  rw [decide_eq_true hin]
                  clear hin
                  by_cases hk0 : k = 0
                  · have hk0' : decide ((0 : Int) < (k : Int)) = false := by simp; omega
                    have hk0n : decide (0 < k) = false := by simp; omega
                    clear hk0
                    go_wp2_with fail
                    exact ⟨⟨k + 1, by omega, by go_num, by rw [HN.out], hbe, hrw, r12⟩, by simp [intOf]; omega⟩
                  · have hk1 : 0 < k := by omega
                    obtain ⟨c', hcc'⟩ : ∃ c', (allC y.log)[k - 1]? = some c' := ⟨_, List.getElem?_eq_getElem (by rw [← HNN.out]; omega)⟩
                    obtain ⟨ub, uoff, ug, ucp, hua, ucell, ule, urow⟩ := hrw.at_ hcc'
                    have hcl' : c'.length = j := by
                      have h1 := ((mem_allC (TNum.lok HY.out HJ1.out) c').1 (List.mem_of_getElem? hcc')).1
                      have h2 := HPL.out
                      omega
                    have HBE := hide (all_before hcc' (by rw [Nat.sub_add_cancel hk1]; exact HCC.out))
                    cases hua
                    rw [hcl'] at ucell ule
                    have HCL' := hide hcl'
                    have w1 : (k : Int) - 1 = ((k - 1 : Nat) : Int) := by omega
                    have w2 : ((k : Int) - 1).toNat = k - 1 := by omega
                    have w3 : 0 ≤ (k : Int) - 1 := by omega
                    have hjj : ((j : Int) == (j : Int)) = true := by simp
                    clear hcl' hcc' hk0 w1
                    go_wp2_with fail
                    refine (before_any c' c _ _ j ucp j vcp _ _ _ HCL'.out.symm HCL.out.symm rfl (by omega) urow vrow).mono ?_
                    rw [HBE.out]
                    rintro e W6 ⟨rfl, rfl⟩
                    clear ucell urow
                    go_wp2_with fail
                    exact ⟨⟨k + 1, by omega, by go_num, by rw [HN.out], hbe, hrw, r12⟩, by simp [intOf]; omega⟩
                · have HN0 : Hid (decide (y.ns ∈ (allC y.log).take (k + 1)) = decide (c = y.ns)) := hide (by rw [HSN.out]; simp only [List.mem_append, List.mem_singleton]; refine decide_eq_decide.2 ⟨fun h => ?_, fun h => .inr h.symm⟩; rcases h with h | h; exact absurd h hin; exact h.symm)
                  rw [decide_eq_false hin]
                  clear hin
                  go_wp2_with fail
                  refine (numbers_any c y.ns _ _ j vcp j c12 _ _ _ HCL.out.symm HL.out (by omega) (by omega) vrow r12).mono ?_
                  rintro e W5 ⟨rfl, hb5⟩
                  have hbe5 := hbe.trans (hb5.mono hbe.size)
                  have hrw5 := hrw.below hb5
                  have r125 := (r12.below hb5 (Nat.le_refl _)).mono hb5.size
                  have vrow5 := (vrow.below hb5 (Nat.le_refl _)).mono hb5.size
                  clear hbe hrw r12 vrow vcell hb5
                  have HN : Hid (decide (y.ns ∈ (allC y.log).take (k + 1)) = decide (c = y.ns)) := hide HN0.out
                  cases hd : decide (c = y.ns) with
                  | true =>
                    rw [hd] at HN
                    clear hd HN0
                    by_cases hk0 : k = 0
                    · have hk0' : decide ((0 : Int) < (k : Int)) = false := by simp; omega
                      have hk0n : decide (0 < k) = false := by simp; omega
                      clear hk0
                      go_wp2_with fail
                      exact ⟨⟨k + 1, by omega, by go_num, by rw [HN.out], hbe5, hrw5, r125⟩, by simp [intOf]; omega⟩
                    · have hk1 : 0 < k := by omega
                      obtain ⟨c', hcc'⟩ : ∃ c', (allC y.log)[k - 1]? = some c' := ⟨_, List.getElem?_eq_getElem (by rw [← HNN.out]; omega)⟩
                      obtain ⟨ub, uoff, ug, ucp, hua, ucell, ule, urow⟩ := hrw5.at_ hcc'
                      have hcl' : c'.length = j := by
                        have h1 := ((mem_allC (TNum.lok HY.out HJ1.out) c').1 (List.mem_of_getElem? hcc')).1
                        have h2 := HPL.out
                        omega
                      have HBE := hide (all_before hcc' (by rw [Nat.sub_add_cancel hk1]; exact HCC.out))
                      cases hua
                      rw [hcl'] at ucell ule
                      have HCL' := hide hcl'
                      have w1 : (k : Int) - 1 = ((k - 1 : Nat) : Int) := by omega
                      have w2 : ((k : Int) - 1).toNat = k - 1 := by omega
                      have w3 : 0 ≤ (k : Int) - 1 := by omega
                      have hjj : ((j : Int) == (j : Int)) = true := by simp
                      clear hcl' hcc' hk0 w1
                      go_wp2_with fail
                      refine (before_any c' c _ _ j ucp j vcp _ _ _ HCL'.out.symm HCL.out.symm rfl (by omega) urow vrow5).mono ?_
                      rw [HBE.out]
                      rintro e W6 ⟨rfl, rfl⟩
                      clear ucell urow
                      go_wp2_with fail
                      exact ⟨⟨k + 1, by omega, by go_num, by rw [HN.out], hbe5, hrw5, r125⟩, by simp [intOf]; omega⟩
                  | false =>
                    rw [hd] at HN
                    clear hd HN0
                    by_cases hk0 : k = 0
                    · have hk0' : decide ((0 : Int) < (k : Int)) = false := by simp; omega
                      have hk0n : decide (0 < k) = false := by simp; omega
                      clear hk0
                      go_wp2_with fail
                      exact ⟨⟨k + 1, by omega, by go_num, by rw [HN.out], hbe5, hrw5, r125⟩, by simp [intOf]; omega⟩
                    · have hk1 : 0 < k := by omega
                      obtain ⟨c', hcc'⟩ : ∃ c', (allC y.log)[k - 1]? = some c' := ⟨_, List.getElem?_eq_getElem (by rw [← HNN.out]; omega)⟩
                      obtain ⟨ub, uoff, ug, ucp, hua, ucell, ule, urow⟩ := hrw5.at_ hcc'
                      have hcl' : c'.length = j := by
                        have h1 := ((mem_allC (TNum.lok HY.out HJ1.out) c').1 (List.mem_of_getElem? hcc')).1
                        have h2 := HPL.out
                        omega
                      have HBE := hide (all_before hcc' (by rw [Nat.sub_add_cancel hk1]; exact HCC.out))
                      cases hua
                      rw [hcl'] at ucell ule
                      have HCL' := hide hcl'
                      have w1 : (k : Int) - 1 = ((k - 1 : Nat) : Int) := by omega
                      have w2 : ((k : Int) - 1).toNat = k - 1 := by omega
                      have w3 : 0 ≤ (k : Int) - 1 := by omega
                      have hjj : ((j : Int) == (j : Int)) = true := by simp
                      clear hcl' hcc' hk0 w1
                      go_wp2_with fail
                      refine (before_any c' c _ _ j ucp j vcp _ _ _ HCL'.out.symm HCL.out.symm rfl (by omega) urow vrow5).mono ?_
                      rw [HBE.out]
                      rintro e W6 ⟨rfl, rfl⟩
                      clear ucell urow
                      go_wp2_with fail
                      exact ⟨⟨k + 1, by omega, by go_num, by rw [HN.out], hbe5, hrw5, r125⟩, by simp [intOf]; omega⟩
              · have hin : y.ns ∈ (allC y.log).take k := by
                  rw [List.take_of_length_le (by rw [← HNN.out]; omega)]
                  exact HMEM.out
                rw [decide_eq_true hin]
                have hN5 : (N : Int) ≤ 500 := by omega
                clear hin
                go_wp2_with (go_at_call 13; refine (works_any _).mono ?_; rintro e W9 ⟨rfl, hb9⟩)
                go_ret
                exact ⟨rfl, hbe.trans (hb9.mono hbe.size)⟩

end Go.Proofs.Ytjgebepeghgmcaa
