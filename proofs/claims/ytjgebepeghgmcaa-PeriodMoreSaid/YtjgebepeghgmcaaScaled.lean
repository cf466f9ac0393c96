/-
  PeriodScaled: the walk.
-/
import Derived.Test.YtjgebepeghgmcaaWatchL
import Derived.Test.YtjgebepeghgmcaaTried
import Derived.Test.YtjgebepeghgmcaaRegs
namespace Go.Proofs.Ytjgebepeghgmcaa
open Go.RowKit Go.Shelf
set_option linter.unusedVariables false
set_option linter.unusedSimpArgs false

theorem alloc_at (w : World) (o : Obj) (g : Nat) (hg : g = w.heap.size) : (w.alloc o).heap[g]? = some o := by
  subst hg
  exact World.alloc_heap_new w o
theorem own_forms {w : World} {base size n : Nat} {e : TypeId} {v : Value} {xs : List Value} (h : w.ownsRow base e size v n xs) (hs : 0 < size := by decide) : (v = .slice none 0 0 ∧ n = 0) ∨ ∃ g cap, v = .slice (some ⟨g, 0, none⟩) n cap := by
  rcases h.2 with ⟨rfl, h0⟩ | ⟨g, cap, cur, rfl, _⟩
  · exact .inl ⟨rfl, h0⟩
  · exact .inr ⟨g, cap, rfl⟩
/-- What lies in memory while the two logs are made. -/
structure ScI (x : WNum) (w : World) (n d : Int) (base p7 p9 p10 : Nat) (ad : Option Addr) (cap : Nat) (k9 k10 : Nat) (v9 v10 : Value) (W : World) : Prop where
  be : Below w.heap.size w W
  b7 : Blk W p7 #[.int .i64 x.lo, .int .i64 x.hi, .slice ad x.n cap] 26
  b9 : Blk W p9 #[.int .i64 (n * x.lo), .int .i64 (n * x.hi), v9] 26
  b10 : Blk W p10 #[.int .i64 x.lo, .int .i64 x.hi, v10] 26
  row : Row W p7 ad (spans x.log.ps)
  own9 : W.ownsRow base 23 2 v9 k9 (spans ((x.log.ps.map (scaleP n)).take k9))
  own10 : W.ownsRow base 23 2 v10 k10 (spans ((x.log.ps.map (shiftP d)).take k10))
  sep : ∀ g, v9.ownBlock = some g → v10.ownBlock ≠ some g
  lt7 : p7 < base
  lt9 : p9 < base
  lt10 : p10 < base
  ge9 : w.heap.size ≤ p9
  ge10 : w.heap.size ≤ p10
  n79 : p7 < p9
  n710 : p7 < p10
  n910 : p9 ≠ p10
  sz : base ≤ W.heap.size
theorem ScI.kept {x : WNum} {w : World} {n d : Int} {base p7 p9 p10 : Nat} {ad : Option Addr} {cap k9 k10 : Nat} {v9 v10 : Value} {W W' : World} (h : ScI x w n d base p7 p9 p10 ad cap k9 k10 v9 v10 W) (hb : Below W.heap.size W W') :
    ScI x w n d base p7 p9 p10 ad cap k9 k10 v9 v10 W' :=
  ⟨h.be.trans (hb.mono h.be.size), h.b7.kept hb, h.b9.kept hb, h.b10.kept hb, h.row.below (hb.mono (by have := h.sz; have := h.lt7; omega)) (Nat.le_refl _), own_stay h.own9 (fun k hk => hb.block k (h.own9.lt k hk).2), own_stay h.own10 (fun k hk => hb.block k (h.own10.lt k hk).2), h.sep, h.lt7, h.lt9, h.lt10, h.ge9, h.ge10, h.n79, h.n710, h.n910, Nat.le_trans h.sz hb.size⟩
theorem span_take (ps : List (Int × Int)) (f : Int × Int → Int × Int) (k : Nat) (hk : k < ps.length) : spans ((ps.map f).take (k + 1)) = spans ((ps.map f).take k) ++ [.int .i64 (f (los ps k, his ps k)).1, .int .i64 (f (los ps k, his ps k)).2] := by
  have e : ps[k] = (los ps k, his ps k) := by
    unfold los his
    simp [List.getD, hk]
  rw [List.take_succ_eq_append_getElem (by simpa using hk), spans_append]
  congr 1
  simp [e, spans]
theorem ScI.next9 {x : WNum} {w : World} {n d : Int} {base p7 p9 p10 : Nat} {ad : Option Addr} {cap k9 k10 : Nat} {v9 v10 : Value} {W W' : World} (h : ScI x w n d base p7 p9 p10 ad cap k9 k10 v9 v10 W) {g c : Nat} (hk : k9 < x.log.ps.length)
    (ho : W'.ownsRow base 23 2 (.slice (some ⟨g, 0, none⟩) (k9 + 1) c) (k9 + 1) (spans ((x.log.ps.map (scaleP n)).take k9) ++ [.int .i64 (n * los x.log.ps k9), .int .i64 (n * his x.log.ps k9)])) (hg : W.grownBy W' v9.ownBlock) (ha : v9.ownBlock = some g ∨ g = W.heap.size) :
    ScI x w n d base p7 p9 p10 ad cap (k9 + 1) k10 (.slice (some ⟨g, 0, none⟩) (k9 + 1) c) v10 (W'.setCell ⟨p9, 2, none⟩ (.slice (some ⟨g, 0, none⟩) (k9 + 1) c)) := by
  have keep : ∀ j, j < base → W'.heap[j]? = W.heap[j]? := fun j hj => hg.block j (by have := h.sz; omega) (fun e => by have := (h.own9.lt j e.symm).1; omega)
  have hgb := (ho.lt g rfl).1
  have hz := h.sz
  have k10 : ∀ j, v10.ownBlock = some j → W'.heap[j]? = W.heap[j]? := fun j hj => hg.block j (h.own10.lt j hj).2 (fun e => h.sep j e.symm hj)
  refine ⟨?_, ?_, ?_, ?_, ?_, ?_, ?_, ?_, h.lt7, h.lt9, h.lt10, h.ge9, h.ge10, h.n79, h.n710, h.n910, ?_⟩
  · refine ⟨hg.os.trans h.be.os, hg.tape.trans h.be.tape, hg.output.trans h.be.output, Nat.le_trans h.be.size (by have := hg.size; simpa [World.setCell] using this), fun j hj => ?_⟩
    have := h.ge9
    have := h.lt9
    exact (Below.heap_setCell _ _ _ _ (by show j ≠ p9; omega)).trans ((keep j (by omega)).trans (h.be.block j hj))
  · exact Blk.other (p := ⟨p9, 2, none⟩) ((keep _ h.lt7).trans h.b7) (by have := h.n79; show p7 ≠ p9; omega) _
  · exact Blk.set ((keep _ h.lt9).trans h.b9 : Blk W' _ _ _) 2 _
  · exact Blk.other (p := ⟨p9, 2, none⟩) ((keep _ h.lt10).trans h.b10) (Ne.symm h.n910) _
  · refine h.row.below (B' := p7) ⟨hg.os, hg.tape, hg.output, by have := hg.size; simpa [World.setCell] using this, fun j hj => ?_⟩ (Nat.le_refl _)
    have := h.n79
    have := h.lt7
    exact (Below.heap_setCell _ _ _ _ (by show j ≠ p9; omega)).trans (keep j (by omega))
  · rw [span_take _ _ _ hk]
    exact own_stay ho (fun j hj => Below.heap_setCell _ _ _ _ (by
      have := (ho.lt j hj).1
      have := h.lt9
      show j ≠ p9
      omega))
  · exact own_stay (own_stay h.own10 k10) (fun j hj => Below.heap_setCell _ _ _ _ (by
      have := (h.own10.lt j hj).1
      have := h.lt9
      show j ≠ p9
      omega))
  · intro j hj hj'
    obtain rfl : g = j := by injection hj
    rcases ha with ha | ha
    · exact h.sep _ ha hj'
    · have := (h.own10.lt _ hj').2
      omega
  · have := hg.size
    have := h.sz
    simp [World.setCell]
    omega

theorem ScI.next10 {x : WNum} {w : World} {n d : Int} {base p7 p9 p10 : Nat} {ad : Option Addr} {cap k9 k10 : Nat} {v9 v10 : Value} {W W' : World} (h : ScI x w n d base p7 p9 p10 ad cap k9 k10 v9 v10 W) {g c : Nat} (hk : k10 < x.log.ps.length)
    (ho : W'.ownsRow base 23 2 (.slice (some ⟨g, 0, none⟩) (k10 + 1) c) (k10 + 1) (spans ((x.log.ps.map (shiftP d)).take k10) ++ [.int .i64 (los x.log.ps k10 + d), .int .i64 (his x.log.ps k10 + d)])) (hg : W.grownBy W' v10.ownBlock) (ha : v10.ownBlock = some g ∨ g = W.heap.size) :
    ScI x w n d base p7 p9 p10 ad cap k9 (k10 + 1) v9 (.slice (some ⟨g, 0, none⟩) (k10 + 1) c) (W'.setCell ⟨p10, 2, none⟩ (.slice (some ⟨g, 0, none⟩) (k10 + 1) c)) := by
  have keep : ∀ j, j < base → W'.heap[j]? = W.heap[j]? := fun j hj => hg.block j (by have := h.sz; omega) (fun e => by have := (h.own10.lt j e.symm).1; omega)
  have hgb := (ho.lt g rfl).1
  have hz := h.sz
  have k9' : ∀ j, v9.ownBlock = some j → W'.heap[j]? = W.heap[j]? := fun j hj => hg.block j (h.own9.lt j hj).2 (fun e => h.sep j hj e.symm)
  refine ⟨?_, ?_, ?_, ?_, ?_, ?_, ?_, ?_, h.lt7, h.lt9, h.lt10, h.ge9, h.ge10, h.n79, h.n710, h.n910, ?_⟩
  · refine ⟨hg.os.trans h.be.os, hg.tape.trans h.be.tape, hg.output.trans h.be.output, Nat.le_trans h.be.size (by have := hg.size; simpa [World.setCell] using this), fun j hj => ?_⟩
    have := h.ge10
    have := h.lt10
    exact (Below.heap_setCell _ _ _ _ (by show j ≠ p10; omega)).trans ((keep j (by omega)).trans (h.be.block j hj))
  · exact Blk.other (p := ⟨p10, 2, none⟩) ((keep _ h.lt7).trans h.b7) (by have := h.n710; show p7 ≠ p10; omega) _
  · exact Blk.other (p := ⟨p10, 2, none⟩) ((keep _ h.lt9).trans h.b9) h.n910 _
  · exact Blk.set ((keep _ h.lt10).trans h.b10 : Blk W' _ _ _) 2 _
  · refine h.row.below (B' := p7) ⟨hg.os, hg.tape, hg.output, by have := hg.size; simpa [World.setCell] using this, fun j hj => ?_⟩ (Nat.le_refl _)
    have := h.n710
    have := h.lt7
    exact (Below.heap_setCell _ _ _ _ (by show j ≠ p10; omega)).trans (keep j (by omega))
  · exact own_stay (own_stay h.own9 k9') (fun j hj => Below.heap_setCell _ _ _ _ (by
      have := (h.own9.lt j hj).1
      have := h.lt10
      show j ≠ p10
      omega))
  · rw [span_take _ _ _ hk]
    exact own_stay ho (fun j hj => Below.heap_setCell _ _ _ _ (by
      have := (ho.lt j hj).1
      have := h.lt10
      show j ≠ p10
      omega))
  · intro j hj hj'
    obtain rfl : g = j := by injection hj'
    rcases ha with ha | ha
    · exact h.sep _ hj ha
    · have := (h.own9.lt _ hj).2
      omega
  · have := hg.size
    have := h.sz
    simp [World.setCell]
    omega

theorem own_row {w : World} {base size n : Nat} {e : TypeId} {v : Value} {xs : List Value} (h : w.ownsRow base e size v n xs) (h0 : 0 < n) : ∃ g cap, v = .slice (some ⟨g, 0, none⟩) n cap ∧ n ≤ cap ∧ Row w w.heap.size (some ⟨g, 0, none⟩) xs := by
  rcases h.2 with ⟨rfl, h1⟩ | ⟨g, cap, cur, rfl, _, hc, hle, _, _, htk⟩
  · omega
  · refine ⟨g, cap, rfl, hle, (row_of_heap hc ?_).mono (Array.getElem?_eq_some_iff.1 hc).1⟩
    rw [h.1]
    exact htk
/-- The ends of possible counts of a watch are small. -/
theorem watch_ends {x : WNum} (hx : x.Ok) {c : List Int} (hc : c ∈ allC x.log) : c.length + 1 = x.n ∧ COk x.log c ∧ possible x.log c = true ∧ (1 ≤ (lowEnd x.log c).1 ∧ (lowEnd x.log c).1 ≤ 48 ∧ 1 ≤ (lowEnd x.log c).2 ∧ (lowEnd x.log c).2 ≤ 6) ∧ 1 ≤ (highEnd x.log c).1 ∧ (highEnd x.log c).1 ≤ 48 ∧ 1 ≤ (highEnd x.log c).2 ∧ (highEnd x.log c).2 ≤ 6 := by
  have hl := x.lok hx
  obtain ⟨h1, h2, h3⟩ := (mem_allC hl c).1 hc
  have hpl : x.log.ps.length = x.n := x.ps_len _
  have hlh := x.lo_hi hx
  have CS : CSix x c := ⟨by omega, fun y hy => (h2.inb y hy).1, watch_six hx (by omega) h2 h3⟩
  obtain ⟨⟨a1, a2⟩, b1, b2⟩ := (CS.six_ok hx).dens
  have E := ends_pos hl h2
  have H := high_is hl h2
  have hhi : x.log.hi = x.hi := rfl
  have g1 : (highEnd x.log c).1 ≤ 8 * 6 := Int.le_trans H.hi (by rw [hhi]; exact Int.mul_le_mul hlh.2.2 b2 (by omega) (by omega))
  have g2 := h3
  rw [possible_le] at g2
  have g3 := cross_trans (a := (lowEnd x.log c).1) (b := (lowEnd x.log c).2) (c := (highEnd x.log c).1) (d := (highEnd x.log c).2) (e := x.hi) (f := 1) (by omega) (by omega) (by decide) g2 (by have := H.hi; rw [hhi] at this; omega)
  have g4 : x.hi * (lowEnd x.log c).2 ≤ 8 * 6 := Int.mul_le_mul hlh.2.2 a2 (by omega) (by omega)
  exact ⟨by omega, h2, h3, ⟨by omega, by omega, a1, a2⟩, by omega, by omega, b1, b2⟩
theorem scaled_counts {x : WNum} (hx : x.Ok) {n : Int} (hn : 1 ≤ n) (hn4 : n ≤ 40) : countsR (scaleL n x.log) = (allC x.log, 0) := by
  have e := (scale_sc hn x.log).allC (x.lok hx) (scale_ok hx hn hn4)
  unfold countsR
  rw [if_neg (by rw [checkL_of (scale_ok hx hn hn4)]; simp), if_neg (by rw [e]; have := watch_few hx; omega), e]
theorem shifted_counts {x : WNum} (hx : x.Ok) {d : Int} (hd : 0 ≤ d) (hd4 : d ≤ 255) : countsR (shiftL d x.log) = (allC x.log, 0) := by
  have e := (shift_sc d x.log).allC (x.lok hx) (shift_ok hx hd hd4)
  unfold countsR
  rw [if_neg (by rw [checkL_of (shift_ok hx hd hd4)]; simp), if_neg (by rw [e]; have := watch_few hx; omega), e]
/-- What Period returns for the three logs. -/
theorem scaled_periods {x : WNum} (hx : x.Ok) {n d : Int} (hn : 1 ≤ n) (hn4 : n ≤ 40) (hd : 0 ≤ d) (hd4 : d ≤ 255) {c : List Int} (hc : c ∈ allC x.log) :
    periodR x.log c = (redR (lowEnd x.log c), redR (highEnd x.log c), 0) ∧ periodR (scaleL n x.log) c = (redR (n * (lowEnd x.log c).1, (lowEnd x.log c).2), redR (n * (highEnd x.log c).1, (highEnd x.log c).2), 0) ∧
    periodR (shiftL d x.log) c = (redR (lowEnd x.log c), redR (highEnd x.log c), 0) := by
  have hl := x.lok hx
  have hpl : x.log.ps.length = x.n := x.ps_len _
  obtain ⟨h1, h2, h3, _⟩ := watch_ends hx hc
  have A := scale_sc hn x.log
  have B := shift_sc d x.log
  have hlen : c.length + 1 = x.log.ps.length := by omega
  refine ⟨period_yes (countedL_of hl h2 hlen) h3, ?_, ?_⟩
  · rw [period_yes (countedL_of (scale_ok hx hn hn4) (A.cok.2 h2) (by rw [A.len]; exact hlen)) (by rw [A.possible (by omega)]; exact h3), (A.ends (by omega)).1, (A.ends (by omega)).2]
  · rw [period_yes (countedL_of (shift_ok hx hd hd4) (B.cok.2 h2) (by rw [B.len]; exact hlen)) (by rw [B.possible (by omega)]; exact h3), (B.ends (by omega)).1, (B.ends (by omega)).2]
    simp
/-- The facts that the last test asks of the ends. -/
theorem scaled_end {n : Int} (hn : 1 ≤ n) (hn4 : n ≤ 40) {r : Int × Int} (h1 : 1 ≤ r.1) (h2 : r.1 ≤ 48) (h3 : 1 ≤ r.2) (h4 : r.2 ≤ 6) :
    (0 ≤ (redR (n * r.1, r.2)).1 * (redR r).2 ∧ (redR (n * r.1, r.2)).1 * (redR r).2 ≤ 1000000) ∧ (0 ≤ n * (redR r).1 ∧ n * (redR r).1 ≤ 1000000) ∧ (0 ≤ n * (redR r).1 * (redR (n * r.1, r.2)).2 ∧ n * (redR r).1 * (redR (n * r.1, r.2)).2 ≤ 1000000) ∧
    (((redR (n * r.1, r.2)).1 * (redR r).2) != (n * (redR r).1 * (redR (n * r.1, r.2)).2)) = false := by
  have hs := red_scaled hn h3 (by omega : 0 ≤ r.1)
  obtain ⟨_, _, _, _, a1, a2, a3, a4⟩ := red_is h3 (by omega : 0 ≤ r.1)
  have hnr : 0 ≤ n * r.1 := Int.mul_nonneg (by omega) (by omega)
  have hnr2 : n * r.1 ≤ 40 * 48 := Int.mul_le_mul hn4 h2 (by omega) (by omega)
  obtain ⟨_, _, _, _, b1, b2, b3, b4⟩ := red_is (r := (n * r.1, r.2)) h3 hnr
  dsimp only at b1 b2 b3 b4
  have p1 := Int.mul_nonneg b3 (by omega : 0 ≤ (redR r).2)
  have p2 : (redR (n * r.1, r.2)).1 * (redR r).2 ≤ 1920 * 6 := Int.mul_le_mul (by omega) (by omega) (by omega) (by omega)
  have p3 : 0 ≤ n * (redR r).1 := Int.mul_nonneg (by omega) a3
  have p4 : n * (redR r).1 ≤ 40 * 48 := Int.mul_le_mul hn4 (by omega) (by omega) (by omega)
  rw [← hs]
  exact ⟨⟨p1, by omega⟩, ⟨p3, by omega⟩, ⟨p1, by omega⟩, by simp⟩

/-- The three logs, made, and all counts. -/
structure ScJ (x : WNum) (w : World) (n d : Int) (p7 p9 p10 : Nat) (a7 a9 a10 : Option Addr) (c7 c9 c10 : Nat) (W : World) : Prop where
  be : Below w.heap.size w W
  b7 : Blk W p7 #[.int .i64 x.lo, .int .i64 x.hi, .slice a7 x.n c7] 26
  b9 : Blk W p9 #[.int .i64 (n * x.lo), .int .i64 (n * x.hi), .slice a9 x.n c9] 26
  b10 : Blk W p10 #[.int .i64 x.lo, .int .i64 x.hi, .slice a10 x.n c10] 26
  r7 : Row W W.heap.size a7 (spans x.log.ps)
  r9 : Row W W.heap.size a9 (spans (scaleL n x.log).ps)
  r10 : Row W W.heap.size a10 (spans (shiftL d x.log).ps)
theorem ScJ.kept {x : WNum} {w : World} {n d : Int} {p7 p9 p10 : Nat} {a7 a9 a10 : Option Addr} {c7 c9 c10 : Nat} {W W' : World} (h : ScJ x w n d p7 p9 p10 a7 a9 a10 c7 c9 c10 W) (hb : Below W.heap.size W W') : ScJ x w n d p7 p9 p10 a7 a9 a10 c7 c9 c10 W' :=
  ⟨h.be.trans (hb.mono h.be.size), h.b7.kept hb, h.b9.kept hb, h.b10.kept hb, (h.r7.below hb (Nat.le_refl _)).mono hb.size, (h.r9.below hb (Nat.le_refl _)).mono hb.size, (h.r10.below hb (Nat.le_refl _)).mono hb.size⟩
theorem ScI.made {x : WNum} {w : World} {n d : Int} {base p7 p9 p10 : Nat} {ad : Option Addr} {cap : Nat} {v9 v10 : Value} {W : World} (h : ScI x w n d base p7 p9 p10 ad cap x.n x.n v9 v10 W) :
    ∃ a9 a10 c9 c10, v9 = .slice a9 x.n c9 ∧ v10 = .slice a10 x.n c10 ∧ ScJ x w n d p7 p9 p10 ad a9 a10 cap c9 c10 W := by
  have hn := x.n_is
  have hpl : x.log.ps.length = x.n := x.ps_len _
  obtain ⟨g9, c9, rfl, _, r9⟩ := own_row h.own9 (by omega)
  obtain ⟨g10, c10, rfl, _, r10⟩ := own_row h.own10 (by omega)
  rw [List.take_of_length_le (by simp; omega)] at r9 r10
  exact ⟨_, _, _, _, rfl, rfl, h.be, h.b7, h.b9, h.b10, h.row.mono (by have := h.sz; have := h.lt7; omega), r9, r10⟩

attribute [local go_sem] grows growAt growUpon in
set_option maxRecDepth 100000 in
set_option maxHeartbeats 4000000 in
theorem pscaled_any (x : WNum) (times later : Int) (w : World) (hx : x.Ok) (ht : 0 ≤ times ∧ times ≤ 255) (hla : 0 ≤ later ∧ later ≤ 255) :
    Calls Try.prog 9 #[x.val, .int .u8 times, .int .u8 later] w fun e w' => e = .returned (.bool true) ∧ Below w.heap.size w w' := by
  have HX := hide hx
  have hmade := fun W => made_any x W hx
  have HV : Hid (x.val = .agg #[.int .u8 x.p0, .int .u8 x.p1, .int .u8 (x.t 0), .int .u8 (x.t 1), .int .u8 (x.t 2), .int .u8 (x.t 3), .int .u8 (x.t 4), .int .u8 (x.t 5), .bool x.two]) := hide rfl
  simp only [HV.out] at hmade
  have HMADE := hide hmade
  have hpl : x.n = x.log.ps.length := (x.ps_len _).symm
  have HPL := hide hpl
  have hn3 : 2 ≤ x.n ∧ x.n ≤ 3 := by have := x.n_is; omega
  have hlh := x.lo_hi HX.out
  have HCR := hide (watch_countsR hx)
  rw [HV.out]
  clear hx hmade HV hpl
  go_enter Try.func9, Try.ntmps9
  go_wp2_with fail
  generalize hW : World.alloc w _ = V
  have hB : Below w.heap.size w V := by rw [← hW]; exact (Below.refl _ _).alloc (Nat.le_refl _) _
  clear hW
  refine (HMADE.out _).mono ?_
  rintro e W1 ⟨ad, cap, rfl, hcap, hr1, hb1⟩
  have hB1 := hB.trans (hb1.mono hB.size)
  clear hB hb1 HMADE V
  go_wp2_with fail
  have S0 := (Blk.new W1 #[.int .i64 x.lo, .int .i64 x.hi, .slice (some ad) x.n cap] 26)
  have hr2 : Row (W1.alloc (.cells #[.int .i64 x.lo, .int .i64 x.hi, .slice (some ad) x.n cap] 26)) W1.heap.size (some ad) (spans x.log.ps) := hr1.below ((Below.refl _ _).alloc (Nat.le_refl _) (.cells #[.int .i64 x.lo, .int .i64 x.hi, .slice (some ad) x.n cap] 26)) (Nat.le_refl _)
  have hB2 := hB1.alloc hB1.size (.cells #[.int .i64 x.lo, .int .i64 x.hi, .slice (some ad) x.n cap] 26)
  clear hr1 hB1
  generalize World.alloc W1 _ = V1 at *
  generalize W1.heap.size = p7 at *
  obtain ⟨n, hn⟩ : ∃ n, n = 1 + times % 40 := ⟨_, rfl⟩
  rw [← hn]
  have hn1 : 1 ≤ n ∧ n ≤ 40 := by omega
  clear hn
  have u7 := S0.three
  have z7 := S0.lt
  have m1 : 0 ≤ n * x.lo ∧ n * x.lo ≤ 320 := ⟨Int.mul_nonneg (by omega) (by omega), Int.le_trans (Int.mul_le_mul hn1.2 (by omega : x.lo ≤ 8) (by omega) (by omega)) (by decide)⟩
  have m2 : 0 ≤ n * x.hi ∧ n * x.hi ≤ 320 := ⟨Int.mul_nonneg (by omega) (by omega), Int.le_trans (Int.mul_le_mul hn1.2 (by omega : x.hi ≤ 8) (by omega) (by omega)) (by decide)⟩
  have i1 : IntKind.i64.wrap (n * x.lo) = n * x.lo := IntWalk.i64_in _ (by omega)
  have i2 : IntKind.i64.wrap (n * x.hi) = n * x.hi := IntWalk.i64_in _ (by omega)
  have hX := @Ext.cell V1
  refine wp_region_pairN #[.int .i64 0, .int .i64 0, .slice none 0 0] #[.int .i64 (n * x.lo), .int .i64 (n * x.hi), .slice none 0 0] #[.int .i64 0, .int .i64 0, .slice none 0 0] rfl 26 26 9 10 15 _ (by kernel_rfl) (by kernel_rfl) (by decide)
    ⟨_, rfl, rfl, rfl, (by intro cs b h; cases h), fun ev w => by simp [go_sem]⟩ ⟨_, rfl, rfl, rfl, (by intro cs b h; cases h), fun ev w => by simp [go_sem]⟩ rfl rfl rfl ?_
  simp only [List.take_succ_cons, List.take_zero, List.drop_succ_cons, List.drop_zero]
  repeat (refine wpGrow_step (fun K hK => ?_); go_simp; (refine hK _ ?_; clear hK K))
  refine wpGrow_nil ?_
  intro p9 p10 hb9 hb10 hb910
  refine ⟨fun w' hbw bk1 => ?_, fun w' hbw bk1 bk2 => ?_⟩
  · have e1 := bk1.three
    simp only [Act.put, List.setIfInBounds_toArray, List.set_cons_zero, List.set_cons_succ]
    unfold StoresA
    simp only [setRow]
    go_simp
  · simp only [Act.put, List.setIfInBounds_toArray, List.set_cons_zero, List.set_cons_succ]
    clear hX i1 i2
    have e2 := bk2.three
    have n79 : p7 < p9 := by omega
    have n710 : p7 < p10 := by omega
    have n1 : ¬ p9 = p10 := hb910
    have n2 : ¬ p10 = p9 := fun e => hb910 e.symm
    have n3 : ¬ p7 = p9 := by omega
    have n4 : ¬ p7 = p10 := by omega
    have k7 := (S0.kept hbw)
    have u7' := k7.three
    go_wp2_with fail
    obtain ⟨Z, hZ⟩ : ∃ Z, Z = setRow w' p10 0 [.int .i64 x.lo, .int .i64 x.hi, .slice none 0 0] := ⟨_, rfl⟩
    have hbZ : Below V1.heap.size V1 Z := by rw [hZ]; exact below_setRow hbw hb10 _ _
    have q10 : Blk Z p10 #[.int .i64 x.lo, .int .i64 x.hi, .slice none 0 0] 26 := by rw [hZ]; exact bk2.setRow #[.int .i64 x.lo, .int .i64 x.hi, .slice none 0 0] rfl
    have q9 : Blk Z p9 #[.int .i64 (n * x.lo), .int .i64 (n * x.hi), .slice none 0 0] 26 := by rw [hZ]; exact bk1.otherRow n1 _ _
    have q7 : Blk Z p7 #[.int .i64 x.lo, .int .i64 x.hi, .slice (some ad) x.n cap] 26 := by rw [hZ]; exact k7.otherRow n4 _ _
    have M0 : ScI x w n later Z.heap.size p7 p9 p10 (some ad) cap 0 0 (.slice none 0 0) (.slice none 0 0) Z :=
      ⟨hB2.trans (hbZ.mono hB2.size), q7, q9, q10, hr2.below (hbZ.mono (Nat.le_of_lt z7)) (Nat.le_refl _), World.ownsRow_nil _ _ _ _, World.ownsRow_nil _ _ _ _, (fun g hg => by cases hg), q7.lt, q9.lt, q10.lt, by have := hB2.size; omega, by have := hB2.size; omega, n79, n710, n1, Nat.le_refl _⟩
    rw [show ((w'.setCell ⟨p10, 0, none⟩ (.int .i64 x.lo)).setCell ⟨p10, 1, none⟩ (.int .i64 x.hi)).setCell ⟨p10, 2, none⟩ (.slice none 0 0) = Z from hZ.symm]
    obtain ⟨base, hbase⟩ : ∃ base, base = Z.heap.size := ⟨_, rfl⟩
    rw [← hbase] at M0
    clear hZ hbase hbZ q10 q9 q7 k7 u7 u7' e2 bk1 bk2 S0 hr2 hB2 hbw z7 hb9 hb10 m1 m2 hb910
    obtain ⟨i0, hi, hz0, hz1, hz2⟩ := info_span
    have HI := hide hi
    clear hi
    obtain ⟨b0, off0, e0, hb0, hc0⟩ := M0.row.span (by rw [← HPL.out]; omega)
    cases e0
    clear hc0 hb0
    go_loopw [54] (fun i wr => ∃ (k : Nat) (v9 v10 : Value), k ≤ x.n ∧ i = .int .i64 (k : Int) ∧ ScI x w n later base p7 p9 p10 (some ⟨b0, off0, none⟩) cap k k v9 v10 wr) (fun i _ => x.n - (intOf i).toNat)
    case atStart => exact ⟨0, _, _, Nat.zero_le _, rfl, M0⟩
    case round =>
      clear M0
      obtain ⟨k, v9, v10, hk, rfl, M⟩ := hrel
      by_cases hkn : k < x.n
      · have hkp : k < x.log.ps.length := by rw [← HPL.out]; exact hkn
        obtain ⟨b1, off1, e1, hb1, hc1⟩ := M.row.span (by omega)
        cases e1
        obtain ⟨cl1, cl2⟩ := hc1 k hkp
        have hsm := x.small HX.out hkn
        have s9 := M.b9.three
        have l9 := M.b9.lt
        have hsz := M.sz
        have h9 := M.lt9
        have h10 := M.lt10
        have h7 := M.lt7
        obtain ⟨a9, c9, rfl⟩ : ∃ a9 c9, v9 = .slice a9 k c9 := by
          rcases own_forms M.own9 with ⟨rfl, h0⟩ | ⟨g, cp, rfl⟩
          · exact ⟨none, 0, by rw [h0]⟩
          · exact ⟨_, _, rfl⟩
        obtain ⟨a10, c10, rfl⟩ : ∃ a10 c10, v10 = .slice a10 k c10 := by
          rcases own_forms M.own10 with ⟨rfl, h0⟩ | ⟨g, cp, rfl⟩
          · exact ⟨none, 0, by rw [h0]⟩
          · exact ⟨_, _, rfl⟩
        clear hc1 hkp
        have m1 : 0 ≤ n * los x.log.ps k ∧ n * los x.log.ps k ≤ 800 := ⟨Int.mul_nonneg (by omega) (by omega), Int.le_trans (Int.mul_le_mul hn1.2 (by omega : los x.log.ps k ≤ 20) (by omega) (by omega)) (by decide)⟩
        have m2 : 0 ≤ n * his x.log.ps k ∧ n * his x.log.ps k ≤ 800 := ⟨Int.mul_nonneg (by omega) (by omega), Int.le_trans (Int.mul_le_mul hn1.2 (by omega : his x.log.ps k ≤ 20) (by omega) (by omega)) (by decide)⟩
        have j1 : 0 ≤ los x.log.ps k + later ∧ los x.log.ps k + later ≤ 300 := by omega
        have j2 : 0 ≤ his x.log.ps k + later ∧ his x.log.ps k + later ≤ 300 := by omega
        have HL9 := hide (fun g (hg : (Value.slice a9 k c9).ownBlock = some g) => M.own9.lt g hg)
        have HL10 := hide (fun g (hg : (Value.slice a10 k c10).ownBlock = some g) => M.own10.lt g hg)
        have hkp : k < x.log.ps.length := by rw [← HPL.out]; exact hkn
        have HKP := hide hkp
        clear hkp
        go_wp2_with (first
          | (at_builtin
             refine wpList_append_lies _ rfl (.tmp 59) (.tmp 69) 24 rfl base 23 i0 (.agg #[.int .i64 0, .int .i64 0]) 2 16 under_spans HI.out hz0 hz1 hz2 rfl (by decide) _ k _ rfl ((M.own9.alloc _).alloc _) ⟨_, 0, none⟩ 1 1 [.int .i64 (n * los x.log.ps k), .int .i64 (n * his x.log.ps k)] rfl rfl (World.news_of_block (alloc_at _ _ _ (by simp [World.setCell]))) (by intro u hu; simp at hu; rcases hu with rfl | rfl <;> rfl) (by decide) (by unfold maxLen; omega) (by omega) (by simp; omega) _ rfl ?_
             intro g2 cap2 W6 ow6 gr6 at6 lt6
             have M' := M.kept (((Below.refl _ _).alloc (Nat.le_refl _) (.cells #[.int .i64 (los x.log.ps k), .int .i64 (his x.log.ps k)] 23)).alloc (by simp) (.cells #[.int .i64 (n * los x.log.ps k), .int .i64 (n * his x.log.ps k)] 23))
             have M9 := M'.next9 HKP.out ow6 gr6 at6
             have b9 : Blk W6 p9 #[.int .i64 (n * x.lo), .int .i64 (n * x.hi), .slice a9 k c9] 26 := (gr6.block _ M'.b9.lt (fun e => by have := (HL9.out _ e.symm).1; omega)).trans M'.b9
             have b10 : Blk W6 p10 #[.int .i64 x.lo, .int .i64 x.hi, .slice a10 k c10] 26 := (gr6.block _ M'.b10.lt (fun e => by have := (HL9.out _ e.symm).1; omega)).trans M'.b10
             have b12 : Blk W6 wr.heap.size #[.int .i64 (los x.log.ps k), .int .i64 (his x.log.ps k)] 23 := (gr6.block _ (by simp; omega) (fun e => by have := (HL9.out _ e.symm).2; omega)).trans ((Blk.new wr _ _).alloc _)
             have lw : p9 < wr.heap.size ∧ p10 < wr.heap.size := by omega
             clear M M' ow6 gr6 at6 cl1 cl2 s9 l9 hsz
             have q9 := b9.three
             have l9 := b9.lt
             have q10 := b10.three
             have l10 := b10.lt
             have q12 := b12.two
             have l12 := b12.lt
             have n5 : ¬ wr.heap.size = p9 := by omega
             clear b9 b10 b12)
          | (at_builtin
             refine wpList_append_lies _ rfl (.tmp 73) (.tmp 85) 24 rfl base 23 i0 (.agg #[.int .i64 0, .int .i64 0]) 2 16 under_spans HI.out hz0 hz1 hz2 rfl (by decide) _ k _ rfl (M9.own10.alloc _) ⟨_, 0, none⟩ 1 1 [.int .i64 (los x.log.ps k + later), .int .i64 (his x.log.ps k + later)] rfl rfl (World.news_of_block (alloc_at _ _ _ (by simp [World.setCell]))) (by intro u hu; simp at hu; rcases hu with rfl | rfl <;> rfl) (by decide) (by unfold maxLen; omega) (by omega) (by have := M9.sz; simp at this ⊢; omega) _ rfl ?_
             intro g3 cap3 W7 ow7 gr7 at7 lt7
             have M' := M9.kept ((Below.refl _ _).alloc (Nat.le_refl _) (.cells #[.int .i64 (los x.log.ps k + later), .int .i64 (his x.log.ps k + later)] 23))
             have M10 := M'.next10 HKP.out ow7 gr7 at7
             have b10 : Blk W7 p10 #[.int .i64 x.lo, .int .i64 x.hi, .slice a10 k c10] 26 := (gr7.block _ M'.b10.lt (fun e => by have := (HL10.out _ e.symm).1; omega)).trans M'.b10
             clear M9 M' ow7 gr7 at7 q9 l9 q10 l10 q12 l12
             have q10 := b10.three
             have l10 := b10.lt
             clear b10))
        exact ⟨⟨k + 1, _, _, by omega, by go_num, M10⟩, by simp [intOf]; omega⟩
      · obtain rfl : k = x.n := by omega
        obtain ⟨a9, a10, c9, c10, rfl, rfl, J⟩ := M.made
        clear M HI hz0 hz1 hz2 hkn hk n79 n710 n1 n2 n3 n4
        have u7 := J.b7.three
        have z7 := J.b7.lt
        go_wp2_with fail
        refine (countsF_any x.log _ x.n cap _ HPL.out (by omega) J.r7).mono ?_
        rw [HCR.out]
        rintro e W2 ⟨v13, rfl, hr13, hb2⟩
        have J2 := J.kept hb2
        clear J u7 z7 hb2
        have u9 := J2.b9.three
        have z9 := J2.b9.lt
        go_wp2_with fail
        have HC9 := hide (scaled_counts HX.out hn1.1 hn1.2)
        have HC10 := hide (shifted_counts HX.out hla.1 hla.2)
        refine (countsF_any (scaleL n x.log) a9 x.n c9 _ (by rw [HPL.out]; simp [scaleL]) (by omega) J2.r9).mono ?_
        rw [HC9.out]
        rintro e W3 ⟨v15, rfl, hr15, hb3⟩
        have J3 := J2.kept hb3
        have hr13' := hr13.below hb3
        clear J2 u9 z9 hr13 hb3
        have u10 := J3.b10.three
        have z10 := J3.b10.lt
        go_wp2_with fail
        refine (countsF_any (shiftL later x.log) a10 x.n c10 _ (by rw [HPL.out]; simp [shiftL]) (by omega) J3.r10).mono ?_
        rw [HC10.out]
        rintro e W4 ⟨v17, rfl, hr17, hb4⟩
        have J4 := J3.kept hb4
        have hr13 := hr13'.below hb4
        have hr15' := hr15.below hb4
        clear J3 u10 z10 hr13' hr15 hb4
        dsimp only at hr13 hr15' hr17
        go_wp2_with fail
        have hfew : (allC x.log).length ≤ 1000000000 := by have := watch_few HX.out; omega
        have hshort : ∀ y ∈ allC x.log, y.length ≤ 1000000000 := fun y hy => by
          have := (watch_ends HX.out hy).1
          omega
        have HLS := hide (fun (v v' : Value) (W : World) (h1 : Rows2 W v (allC x.log)) (h2 : Rows2 W v' (allC x.log)) => lists_any (allC x.log) (allC x.log) v v' W hfew hfew hshort hshort h1 h2)
        have hdt : decide (allC x.log = allC x.log) = true := decide_eq_true rfl
        rw [hdt] at HLS
        clear hfew hshort hdt
        refine (HLS.out v13 v15 W4 hr13 hr15').mono ?_
        rintro e W5 ⟨rfl, hb5⟩
        have J5 := J4.kept hb5
        have hr13' := hr13.below hb5
        have hr17' := hr17.below hb5
        clear J4 hr13 hr17 hr15' hb5
        go_wp2_with fail
        refine (HLS.out v13 v17 W5 hr13' hr17').mono ?_
        rintro e W6 ⟨rfl, hb6⟩
        have J6 := J5.kept hb6
        have hr13 := hr13'.below hb6
        clear J5 hr13' hr17' hb6 HLS
        obtain ⟨va, vcap, hv, hvl⟩ := hr13.form
        obtain ⟨L, hL⟩ : ∃ L, L = (allC x.log).length := ⟨_, rfl⟩
        rw [← hL] at hv hvl
        have HL := hide hL
        subst hv
        have hL5 : L ≤ 500 := by have := watch_few HX.out; rw [← HL.out] at this; exact this
        clear hL hvl
        go_wp2_with fail
        go_loopw [128] (fun i wr => ∃ k : Nat, k ≤ L ∧ i = .int .i64 (k : Int) ∧ ScJ x w n later p7 p9 p10 (some ⟨b0, off0, none⟩) a9 a10 cap c9 c10 wr ∧ Rows2 wr (.slice va L vcap) (allC x.log)) (fun i _ => L - (intOf i).toNat)
        case atStart => exact ⟨0, Nat.zero_le _, rfl, J6, hr13⟩
        case round =>
          clear J6 hr13
          obtain ⟨k, hk, rfl, J, hrw⟩ := hrel
          by_cases hkL : k < L
          · have hkl : k < (allC x.log).length := by rw [← HL.out]; exact hkL
            obtain ⟨c, hc⟩ : ∃ c, (allC x.log)[k]? = some c := ⟨_, List.getElem?_eq_getElem hkl⟩
            obtain ⟨vb, voff, vg, vcp, hva, vcell, vle, vrow⟩ := hrw.at_ hc
            have hmem : c ∈ allC x.log := List.mem_of_getElem? hc
            obtain ⟨e1, e2, e3⟩ := scaled_periods HX.out hn1.1 hn1.2 hla.1 hla.2 hmem
            obtain ⟨f1, f2, f3, f4, f5⟩ := watch_ends HX.out hmem
            have s1 := scaled_end hn1.1 hn1.2 f4.1 f4.2.1 f4.2.2.1 f4.2.2.2
            have s2 := scaled_end hn1.1 hn1.2 f5.1 f5.2.1 f5.2.2.1 f5.2.2.2
            have E1 := hide e1
            have E2 := hide e2
            have E3 := hide e3
            have hcl : c.length ≤ 2 := by omega
            subst hva
            clear hkl hc hmem e1 e2 e3 f1 f2 f3 f4 f5
            generalize redR (lowEnd x.log c) = A at *
            generalize redR (highEnd x.log c) = B at *
            generalize redR (n * (lowEnd x.log c).1, (lowEnd x.log c).2) = C at *
            generalize redR (n * (highEnd x.log c).1, (highEnd x.log c).2) = D at *
            obtain ⟨A1, A2⟩ := A
            obtain ⟨B1, B2⟩ := B
            obtain ⟨C1, C2⟩ := C
            obtain ⟨D1, D2⟩ := D
            dsimp only at s1 s2
            obtain ⟨s11, s12, s13, s14⟩ := s1
            obtain ⟨s21, s22, s23, s24⟩ := s2
            have S0 : BSt w [] wr := ⟨J.be, Boxes.nil _⟩
            have u := J.b7.three
            have z := J.b7.lt
            go_wp2_with fail
            refine (periodF_any x.log c _ _ x.n cap c.length vcp _ HPL.out rfl (by omega) (by omega) vle J.r7 vrow).mono ?_
            rw [E1.out]
            dsimp only
            rintro e W7 ⟨rfl, hb7⟩
            have hb7' : Below W7.heap.size W7 ((W7.alloc (.cells #[.int .i64 A1, .int .i64 A2] 41)).alloc (.cells #[.int .i64 B1, .int .i64 B2] 41)) := ((Below.refl _ _).alloc (Nat.le_refl _) _).alloc (by simp) _
            have S7 := ((S0.kept hb7).new #[.int .i64 A1, .int .i64 A2] 41).new #[.int .i64 B1, .int .i64 B2] 41
            have hb7'' := hb7.trans (hb7'.mono hb7.size)
            have J7 := J.kept hb7''
            have vr7 := (vrow.below hb7'' (Nat.le_refl _)).mono hb7''.size
            have hw7 := hrw.below hb7''
            rw [World.size_alloc] at S7
            clear J S0 vrow hrw hb7 hb7' hb7'' u z
            have u := J7.b9.three
            have z := J7.b9.lt
            go_wp2_with fail
            generalize World.alloc (World.alloc W7 _) _ = X7 at *
            generalize W7.heap.size = P7 at *
            refine (periodF_any (scaleL n x.log) c _ _ x.n c9 c.length vcp _ (by rw [HPL.out]; simp [scaleL]) rfl (by omega) (by omega) vle J7.r9 vr7).mono ?_
            rw [E2.out]
            dsimp only
            rintro e W8 ⟨rfl, hb8⟩
            have hb8' : Below W8.heap.size W8 ((W8.alloc (.cells #[.int .i64 C1, .int .i64 C2] 41)).alloc (.cells #[.int .i64 D1, .int .i64 D2] 41)) := ((Below.refl _ _).alloc (Nat.le_refl _) _).alloc (by simp) _
            have S8 := ((S7.kept hb8).new #[.int .i64 C1, .int .i64 C2] 41).new #[.int .i64 D1, .int .i64 D2] 41
            have hb8'' := hb8.trans (hb8'.mono hb8.size)
            have J8 := J7.kept hb8''
            have vr8 := (vr7.below hb8'' (Nat.le_refl _)).mono hb8''.size
            have hw8 := hw7.below hb8''
            rw [World.size_alloc] at S8
            clear J7 S7 vr7 hw7 hb8 hb8' hb8'' u z
            have u := J8.b10.three
            have z := J8.b10.lt
            go_wp2_with fail
            generalize World.alloc (World.alloc W8 _) _ = X8 at *
            generalize W8.heap.size = P8 at *
            refine (periodF_any (shiftL later x.log) c _ _ x.n c10 c.length vcp _ (by rw [HPL.out]; simp [shiftL]) rfl (by omega) (by omega) vle J8.r10 vr8).mono ?_
            rw [E3.out]
            dsimp only
            rintro e W9 ⟨rfl, hb9⟩
            have hb9' : Below W9.heap.size W9 ((W9.alloc (.cells #[.int .i64 A1, .int .i64 A2] 41)).alloc (.cells #[.int .i64 B1, .int .i64 B2] 41)) := ((Below.refl _ _).alloc (Nat.le_refl _) _).alloc (by simp) _
            have S9 := ((S8.kept hb9).new #[.int .i64 A1, .int .i64 A2] 41).new #[.int .i64 B1, .int .i64 B2] 41
            have hb9'' := hb9.trans (hb9'.mono hb9.size)
            have J9 := J8.kept hb9''
            have hw9 := hw8.below hb9''
            rw [World.size_alloc] at S9
            clear J8 S8 vr8 hw8 hb9 hb9' hb9'' u z
            have q1 := (S9.boxes _ (by simp : (P7, #[Value.int .i64 A1, Value.int .i64 A2], 41) ∈ _)).two
            have q2 := (S9.boxes _ (by simp : (P7 + 1, #[Value.int .i64 B1, Value.int .i64 B2], 41) ∈ _)).two
            have q3 := (S9.boxes _ (by simp : (P8, #[Value.int .i64 C1, Value.int .i64 C2], 41) ∈ _)).two
            have q4 := (S9.boxes _ (by simp : (P8 + 1, #[Value.int .i64 D1, Value.int .i64 D2], 41) ∈ _)).two
            have l1 := (S9.boxes _ (by simp : (P7, #[Value.int .i64 A1, Value.int .i64 A2], 41) ∈ _)).lt
            have l2 := (S9.boxes _ (by simp : (P7 + 1, #[Value.int .i64 B1, Value.int .i64 B2], 41) ∈ _)).lt
            have l3 := (S9.boxes _ (by simp : (P8, #[Value.int .i64 C1, Value.int .i64 C2], 41) ∈ _)).lt
            have l4 := (S9.boxes _ (by simp : (P8 + 1, #[Value.int .i64 D1, Value.int .i64 D2], 41) ∈ _)).lt
            go_wp2_with fail
            exact ⟨⟨k + 1, by omega, by go_num, J9, hw9⟩, by simp [intOf]; omega⟩
          · go_wp2_with (go_at_call 13; refine (works_any _).mono ?_; rintro e W9 ⟨rfl, hb9⟩)
            go_ret
            exact ⟨rfl, J.be.trans (hb9.mono J.be.size)⟩

end Go.Proofs.Ytjgebepeghgmcaa
