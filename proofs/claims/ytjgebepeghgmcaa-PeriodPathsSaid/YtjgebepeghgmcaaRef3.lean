/-
  The reference: Path.
-/
import Derived.Test.YtjgebepeghgmcaaRef2
import Derived.Deep.LoopGhost
import Derived.Deep.DeepCutAuto
namespace Go.Proofs.Ytjgebepeghgmcaa
open Go.RowKit Go.Shelf
set_option linter.unusedVariables false
set_option linter.unusedSimpArgs false

/-! ### subtractive steps and quotients -/
def pq (y x : Int) : List Int := quoF (x.toNat + 1) y x
def addHead (n : Int) : List Int → List Int
  | [] => []
  | h :: t => (n + h) :: t
def pthF (rt : Bool) (run y x : Int) : List Int := lastLess (addHead run (if rt then pq y x else pq x y))

theorem pq_pos {y x : Int} (hx : 0 < x) : pq y x = y / x :: pq x (y % x) := quoF_step hx
theorem pq_sub {y x : Int} (hx : 0 < x) (h : x < y) : pq y x = addHead 1 (pq (y - x) x) := by
  have e1 : y / x = 1 + (y - x) / x := by
    conv => lhs; rw [show y = (y - x) + 1 * x by omega]
    rw [Int.add_mul_ediv_right _ _ (by omega)]
    omega
  have e2 : y % x = (y - x) % x := by rw [Int.sub_emod_right]
  rw [pq_pos hx, pq_pos hx, e1, e2]
  rfl
theorem pq_less {y x : Int} (hy : 0 < y) (h : y < x) : pq y x = 0 :: pq x y := by
  rw [pq_pos (by omega), Int.ediv_eq_zero_of_lt (by omega) h, Int.emod_eq_of_lt (by omega) h]
theorem addHead_add (m n : Int) (l : List Int) : addHead m (addHead n l) = addHead (m + n) l := by
  cases l with
  | nil => rfl
  | cons h t => simp [addHead]; omega
theorem addHead_zero (l : List Int) : addHead 0 l = l := by
  cases l with
  | nil => rfl
  | cons h t => simp [addHead]
theorem lastLess_cons (h g : Int) (t : List Int) : lastLess (h :: g :: t) = h :: lastLess (g :: t) := by
  unfold lastLess
  simp only [List.getLast?_cons_cons, List.dropLast_cons_cons]
  split <;> simp
theorem lastLess_add (h n : Int) (l : List Int) (hl : l ≠ []) : lastLess (h :: addHead n l) = h :: lastLess (addHead n l) := by
  cases l with
  | nil => exact absurd rfl hl
  | cons g t => exact lastLess_cons _ _ _
theorem pq_ne {y x : Int} (hx : 0 < x) : pq y x ≠ [] := by rw [pq_pos hx]; simp

theorem pth_right {run y x : Int} (hx : 0 < x) (h : x < y) : pthF true run y x = pthF true (run + 1) (y - x) x := by
  simp only [pthF, if_true]
  rw [pq_sub hx h, addHead_add]
theorem pth_left {run y x : Int} (hy : 0 < y) (h : y < x) : pthF false run y x = pthF false (run + 1) y (x - y) := by
  simp only [pthF, Bool.false_eq_true, if_false]
  rw [pq_sub hy h, addHead_add]
theorem pth_turn_left {run y x : Int} (hy : 0 < y) (h : y < x) : pthF true run y x = run :: pthF false 1 y (x - y) := by
  simp only [pthF, Bool.false_eq_true, if_false, if_true]
  rw [pq_less hy h, pq_sub hy h]
  simp only [addHead, Int.add_zero]
  exact lastLess_add _ _ _ (pq_ne hy)
theorem pth_turn_right {run y x : Int} (hx : 0 < x) (h : x < y) : pthF false run y x = run :: pthF true 1 (y - x) x := by
  simp only [pthF, Bool.false_eq_true, if_false, if_true]
  rw [pq_less hx h, pq_sub hx h]
  simp only [addHead, Int.add_zero]
  exact lastLess_add _ _ _ (pq_ne hx)
theorem pth_end (rt : Bool) (run : Int) : pthF rt run 1 1 = if run = 0 then [] else [run] := by
  have e : pq 1 1 = [1] := by decide
  cases rt <;> simp [pthF, e, addHead, lastLess]

theorem red_one {r : Int × Int} (h1 : 0 ≤ r.1) (h2 : 1 ≤ r.2) (g : Int) (hg : 0 < g) (d1 : g ∣ (redR r).1) (d2 : g ∣ (redR r).2) : g = 1 := by
  obtain ⟨a, b⟩ := r
  dsimp only [redR, gcdI] at *
  have hp : 0 < Int.gcd a b := Int.gcd_pos_of_ne_zero_right _ (by omega)
  have e := Int.gcd_ediv_gcd_ediv_gcd (i := a) (j := b) hp
  have h3 : g ∣ ((Int.gcd (a / (Int.gcd a b : Int)) (b / (Int.gcd a b : Int)) : Nat) : Int) := Int.dvd_coe_gcd d1 d2
  rw [e] at h3
  have := Int.le_of_dvd (by decide) h3
  omega

theorem own_same {w w' : World} {base : Nat} {e : TypeId} {size n : Nat} {v : Value} {xs : List Value} (h : w.ownsRow base e size v n xs) (hk : ∀ k, v.ownBlock = some k → w'.heap[k]? = w.heap[k]?) : w'.ownsRow base e size v n xs := by
  refine ⟨h.1, h.2.imp id ?_⟩
  rintro ⟨g, cap, cur, rfl, r1, r2, r3⟩
  exact ⟨g, cap, cur, rfl, r1, (hk g rfl).trans r2, r3⟩

/-- What the loop of Path holds between two rounds: the numbers. -/
structure PJ (N D : Int) (a b c d y x run : Int) (rt : Bool) (done : List Int) : Prop where
  a0 : 0 ≤ a
  b0 : 0 ≤ b
  c0 : 0 ≤ c
  d0 : 0 ≤ d
  y1 : 1 ≤ y
  x1 : 1 ≤ x
  r0 : 0 ≤ run
  num : N = x * a + y * c
  den : D = x * b + y * d
  det : b * c - a * d = 1
  rb : run + y + x ≤ N + D
  lb : (done.length : Int) + y + x ≤ N + D
  cop : ∀ g : Int, 0 < g → g ∣ y → g ∣ x → g = 1
  eq : done ++ pthF rt run y x = lastLess (pq N D)

theorem PJ.start {N D : Int} (hN : 1 ≤ N) (hD : 1 ≤ D) (h : ∀ g : Int, 0 < g → g ∣ N → g ∣ D → g = 1) : PJ N D 0 1 1 0 N D 0 true [] :=
  ⟨by omega, by omega, by omega, by omega, hN, hD, by omega, by omega, by omega, by omega, by omega, by simp, h, by simp [pthF, addHead_zero]⟩

section
variable {N D a b c d y x run : Int} {rt : Bool} {done : List Int}
theorem PJ.sums (h : PJ N D a b c d y x run rt done) : a + c ≤ N ∧ b + d ≤ D := by
  obtain ⟨h1, h2, h3, h4, h5, h6, _, h7, h8, _⟩ := h
  have e1 : 1 * a ≤ x * a := Int.mul_le_mul_of_nonneg_right h6 h1
  have e2 : 1 * c ≤ y * c := Int.mul_le_mul_of_nonneg_right h5 h3
  have e3 : 1 * b ≤ x * b := Int.mul_le_mul_of_nonneg_right h6 h2
  have e4 : 1 * d ≤ y * d := Int.mul_le_mul_of_nonneg_right h5 h4
  omega
theorem PJ.same (h : PJ N D a b c d y x run rt done) : (a + c = N ∧ b + d = D) ↔ (y = 1 ∧ x = 1) := by
  obtain ⟨h1, h2, h3, h4, h5, h6, _, h7, h8, h9, _⟩ := h
  constructor
  · rintro ⟨e1, e2⟩
    have f1 : (x - 1) * a + (y - 1) * c = 0 := by grind
    have f2 : (x - 1) * b + (y - 1) * d = 0 := by grind
    have f3 : x - 1 = 0 := by
      have : (x - 1) * (b * c - a * d) = 0 := by grind
      rw [h9] at this
      omega
    have f4 : y - 1 = 0 := by
      have : (y - 1) * (b * c - a * d) = 0 := by grind
      rw [h9] at this
      omega
    omega
  · rintro ⟨rfl, rfl⟩
    omega
theorem PJ.less (h : PJ N D a b c d y x run rt done) : lessR (a + c, b + d) (N, D) = decide (x < y) := by
  obtain ⟨h1, h2, h3, h4, h5, h6, _, h7, h8, h9, _⟩ := h
  have e : N * (b + d) - (a + c) * D = y - x := by
    have : N * (b + d) - (a + c) * D = (y - x) * (b * c - a * d) := by subst h7 h8; grind
    rw [this, h9, Int.mul_one]
  simp only [lessR, decide_eq_decide]
  omega
theorem PJ.ne (h : PJ N D a b c d y x run rt done) (hn : ¬ (y = 1 ∧ x = 1)) : y ≠ x := by
  intro e
  have := h.cop y (by have := h.y1; omega) (Int.dvd_refl _) (by rw [e]; exact Int.dvd_refl _)
  omega
theorem PJ.right (h : PJ N D a b c d y x run true done) (hxy : x < y) : PJ N D (a + c) (b + d) c d (y - x) x (run + 1) true done := by
  obtain ⟨h1, h2, h3, h4, h5, h6, h6', h7, h8, h9, h10, h11, h12, h13⟩ := h
  exact ⟨by omega, by omega, h3, h4, by omega, h6, by omega, by grind, by grind, by grind, by omega, by omega,
    fun g hg e1 e2 => h12 g hg (by have := Int.dvd_add e1 e2; rwa [Int.sub_add_cancel] at this) e2, by rw [← pth_right (by omega) hxy]; exact h13⟩
theorem PJ.left (h : PJ N D a b c d y x run false done) (hxy : y < x) : PJ N D a b (a + c) (b + d) y (x - y) (run + 1) false done := by
  obtain ⟨h1, h2, h3, h4, h5, h6, h6', h7, h8, h9, h10, h11, h12, h13⟩ := h
  exact ⟨h1, h2, by omega, by omega, h5, by omega, by omega, by grind, by grind, by grind, by omega, by omega,
    fun g hg e1 e2 => h12 g hg e1 (by have := Int.dvd_add e2 e1; rwa [Int.sub_add_cancel] at this), by rw [← pth_left (by omega) hxy]; exact h13⟩
theorem PJ.turnRight (h : PJ N D a b c d y x run false done) (hxy : x < y) : PJ N D (a + c) (b + d) c d (y - x) x 1 true (done ++ [run]) := by
  obtain ⟨h1, h2, h3, h4, h5, h6, h6', h7, h8, h9, h10, h11, h12, h13⟩ := h
  exact ⟨by omega, by omega, h3, h4, by omega, h6, by omega, by grind, by grind, by grind, by omega, by simp; omega,
    fun g hg e1 e2 => h12 g hg (by have := Int.dvd_add e1 e2; rwa [Int.sub_add_cancel] at this) e2, by rw [List.append_assoc, List.singleton_append, ← pth_turn_right (by omega) hxy]; exact h13⟩
theorem PJ.turnLeft (h : PJ N D a b c d y x run true done) (hxy : y < x) : PJ N D a b (a + c) (b + d) y (x - y) 1 false (done ++ [run]) := by
  obtain ⟨h1, h2, h3, h4, h5, h6, h6', h7, h8, h9, h10, h11, h12, h13⟩ := h
  exact ⟨h1, h2, by omega, by omega, h5, by omega, by omega, by grind, by grind, by grind, by omega, by simp; omega,
    fun g hg e1 e2 => h12 g hg e1 (by have := Int.dvd_add e2 e1; rwa [Int.sub_add_cancel] at this), by rw [List.append_assoc, List.singleton_append, ← pth_turn_left (by omega) hxy]; exact h13⟩
theorem PJ.last (h : PJ N D a b c d y x run rt done) (hy : y = 1) (hx : x = 1) : lastLess (pq N D) = if run = 0 then done else done ++ [run] := by
  have e := h.eq
  subst hy hx
  rw [pth_end] at e
  rw [← e]
  split <;> simp
end

/-- .. and the memory. -/
structure PMem (w : World) (N D : Int) (p4 p5 B : Nat) (a b c d : Int) (v : Value) (done : List Int) (wr : World) : Prop where
  r : Blk wr w.heap.size #[.int .i64 N, .int .i64 D] 41
  lo : Blk wr p4 #[.int .i64 a, .int .i64 b] 41
  hi : Blk wr p5 #[.int .i64 c, .int .i64 d] 41
  own : wr.ownsRow B 3 1 v done.length (ints done)
  be : Below w.heap.size w wr
  sz : B ≤ wr.heap.size
section
variable {w : World} {N D : Int} {p4 p5 B : Nat} {a b c d : Int} {v : Value} {done : List Int} {wr : World}
theorem PMem.kept {wr' : World} (h : PMem w N D p4 p5 B a b c d v done wr) (hb : Below wr.heap.size wr wr') : PMem w N D p4 p5 B a b c d v done wr' :=
  ⟨h.r.kept hb, h.lo.kept hb, h.hi.kept hb, own_same h.own (fun k hk => hb.block k (h.own.lt k hk).2), h.be.trans (hb.mono h.be.size), Nat.le_trans h.sz hb.size⟩
theorem PMem.setLo (h : PMem w N D p4 p5 B a b c d v done wr) (h4 : w.heap.size < p4) (h45 : p4 ≠ p5) (hB : p4 < B) (a' b' : Int) :
    PMem w N D p4 p5 B a' b' c d v done ((wr.setCell ⟨p4, 0, none⟩ (.int .i64 a')).setCell ⟨p4, 1, none⟩ (.int .i64 b')) :=
  ⟨h.r.other2 (by omega) _ _, h.lo.set2 _ _, h.hi.other2 (Ne.symm h45) _ _, own_same h.own (fun k hk => by
    have := (h.own.lt k hk).1
    exact (Below.heap_setCell _ _ _ _ (by show k ≠ p4; omega)).trans (Below.heap_setCell _ _ _ _ (by show k ≠ p4; omega))), below_set2 h.be (by omega) _ _, by have := h.sz; simpa [World.setCell] using this⟩
theorem PMem.setHi (h : PMem w N D p4 p5 B a b c d v done wr) (h5 : w.heap.size < p5) (h45 : p4 ≠ p5) (hB : p5 < B) (c' d' : Int) :
    PMem w N D p4 p5 B a b c' d' v done ((wr.setCell ⟨p5, 0, none⟩ (.int .i64 c')).setCell ⟨p5, 1, none⟩ (.int .i64 d')) :=
  ⟨h.r.other2 (by omega) _ _, h.lo.other2 h45 _ _, h.hi.set2 _ _, own_same h.own (fun k hk => by
    have := (h.own.lt k hk).1
    exact (Below.heap_setCell _ _ _ _ (by show k ≠ p5; omega)).trans (Below.heap_setCell _ _ _ _ (by show k ≠ p5; omega))), below_set2 h.be (by omega) _ _, by have := h.sz; simpa [World.setCell] using this⟩
theorem PMem.append {g : Nat} {cap : Nat} {run : Int} {wr' : World} (h : PMem w N D p4 p5 B a b c d v done wr) (h0 : w.heap.size < B) (h4 : p4 < B) (h5 : p5 < B)
    (ho : wr'.ownsRow B 3 1 (.slice (some ⟨g, 0, none⟩) (done.length + 1) cap) (done.length + 1) (ints done ++ [.int .i64 run])) (hg : wr.grownBy wr' v.ownBlock) : PMem w N D p4 p5 B a b c d (.slice (some ⟨g, 0, none⟩) (done.length + 1) cap) (done ++ [run]) wr' := by
  have keep : ∀ k, k < B → k < wr.heap.size → wr'.heap[k]? = wr.heap[k]? := fun k hk hl => hg.block k hl (fun e => by have := (h.own.lt k e.symm).1; omega)
  refine ⟨(keep _ h0 h.r.lt).trans h.r, (keep _ h4 h.lo.lt).trans h.lo, (keep _ h5 h.hi.lt).trans h.hi, ?_, ⟨hg.os.trans h.be.os, hg.tape.trans h.be.tape, hg.output.trans h.be.output, Nat.le_trans h.be.size hg.size,
    fun k hk => (keep k (by omega) (by have := h.be.size; omega)).trans (h.be.block k hk)⟩, Nat.le_trans h.sz hg.size⟩
  have e : ints (done ++ [run]) = ints done ++ [.int .i64 run] := by simp [ints]
  rw [List.length_append, e]
  exact ho
end

theorem RowV.of_own {w : World} {B : Nat} {v : Value} {xs : List Int} (h : w.ownsRow B 3 1 v xs.length (ints xs)) : RowV w v xs := by
  rcases h.2 with ⟨rfl, h0⟩ | ⟨g, cap, cur, rfl, _, hc, hle, _, _, htk⟩
  · have : xs = [] := List.eq_nil_of_length_eq_zero h0
    subst this
    exact RowV.nil _
  · exact ⟨_, cap, rfl, hle, (row_of_heap hc (by rw [ints_length]; simpa using htk)).mono (Array.getElem?_eq_some_iff.1 hc).1⟩

theorem pathR_pq {r : Int × Int} (hv : validR r = true) (h0 : r.1 ≠ 0) : pathR r = (lastLess (pq (redR r).1 (redR r).2), 0) := by
  obtain ⟨h1, h2, h3, h4⟩ := red_in hv h0
  unfold pathR
  rw [hv, if_neg (by simp [h0])]
  unfold pq
  rw [quoF_fuel 1000001 ((redR r).2.toNat + 1) _ _ (by omega) (by omega) (by omega)]

set_option maxRecDepth 100000 in
set_option maxHeartbeats 1000000 in
theorem refpath_any (r : Int × Int) (w : World) :
    Calls Try.prog 23 #[.agg #[.int .i64 r.1, .int .i64 r.2]] w fun e w' =>
      ∃ v, e = .returned (.tuple #[v, .int .i64 (pathR r).2]) ∧ RowV w' v (pathR r).1 ∧ Below w.heap.size w w' := by
  have HV := hide (fun w => refvalid_any r w)
  have HP : Hid (pathR r = _) := hide (by unfold pathR; rfl)
  have HPQ := hide (fun h h0 => @pathR_pq r h h0)
  have HIN := hide (fun h h0 => @red_in r h h0)
  have HVI := hide (fun h => @validR_in r h)
  have HONE := hide (fun h1 h2 => @red_one r h1 h2)
  have HRD := hide (fun w => refreduced_any r.1 r.2 w)
  obtain ⟨x, y⟩ := r
  dsimp only at *
  go_enter Try.func23, Try.ntmps23
  go_wp2_with fail
  generalize hW : World.alloc w _ = V
  have hB : Below w.heap.size w V := by rw [← hW]; exact (Below.refl _ _).alloc (Nat.le_refl _) _
  have b0 : Blk V w.heap.size #[.int .i64 x, .int .i64 y] 41 := by rw [← hW]; exact Blk.new w _ _
  have hsV := hB.size
  clear hW
  refine (HV.out _).mono ?_
  rintro e W1 ⟨rfl, hb1⟩
  have c0 := b0.kept hb1
  have hB1 := hB.trans (hb1.mono hsV)
  have hs1 := hB1.size
  clear b0 hB hb1 hsV
  obtain ⟨x0, x1, _, _⟩ := c0.two
  have y0 := c0.lt
  cases hva : validR (x, y) with
  | false =>
    have HR : Hid (pathR (x, y) = ([], 1)) := hide (by rw [HP.out, hva]; rfl)
    clear HP HV HIN HVI
    go_wp2_with fail
    exact bodyPost_ret (v := .tuple #[.slice none 0 0, .int .i64 1]) (by simp [results, Try.results23, go_sem]) rfl ⟨_, by rw [HR.out], by rw [HR.out]; exact RowV.nil _, hB1⟩
  | true =>
    by_cases h0 : x = 0
    · have HR : Hid (pathR (x, y) = ([], 1)) := hide (by rw [HP.out, hva]; simp [h0])
      have hx : (x == 0) = true := by simp [h0]
      clear HP HV HIN HVI h0
      go_wp2_with fail
      exact bodyPost_ret (v := .tuple #[.slice none 0 0, .int .i64 1]) (by simp [results, Try.results23, go_sem]) rfl ⟨_, by rw [HR.out], by rw [HR.out]; exact RowV.nil _, hB1⟩
    · have hin := HIN.out hva h0
      obtain ⟨v1, v2, v3, v4⟩ := HVI.out hva
      have hone := hide (HONE.out v1 v3)
      have HR := hide (HPQ.out hva h0)
      have hx : (x == 0) = false := by simp [h0]
      clear HP HV HIN HVI h0 HONE HPQ
      go_wp2_with fail
      refine (HRD.out _ (by omega) (by omega) (by omega) (by omega)).mono ?_
      rintro e W2 ⟨rfl, hb2⟩
      have hB2 := hB1.trans (hb2.mono hs1)
      have c2 := c0.kept hb2
      have hs2 := hB2.size
      clear hb2 hB1 hs1 c0 x0 x1 y0 HRD
      obtain ⟨x0, x1, f0, f1⟩ := c2.two
      have y0 := c2.lt
      generalize (redR (x, y)).1 = N at *
      generalize (redR (x, y)).2 = D at *
      go_wp2_with fail
      generalize hU : World.alloc (World.alloc (World.setCell (World.setCell W2 _ _) _ _) _) _ = U
      have hBU : Below w.heap.size w U := by rw [← hU]; exact ((below_set2 hB2 (k := w.heap.size) (Nat.le_refl _) _ _).alloc (by simpa [World.setCell] using hs2) _).alloc (by simp [World.setCell]; omega) _
      have d0 : Blk U w.heap.size #[.int .i64 N, .int .i64 D] 41 := by rw [← hU]; exact ((c2.set2 (.int .i64 N) (.int .i64 D)).alloc _).alloc _
      have d1 : Blk U W2.heap.size #[.int .i64 0, .int .i64 1] 41 := by rw [← hU]; exact (by simpa [World.setCell] using (Blk.new ((W2.setCell ⟨w.heap.size, 0, none⟩ (.int .i64 N)).setCell ⟨w.heap.size, 1, none⟩ (.int .i64 D)) #[.int .i64 0, .int .i64 1] 41).alloc (.cells #[.int .i64 1, .int .i64 0] 41))
      have d2 : Blk U (W2.heap.size + 1) #[.int .i64 1, .int .i64 0] 41 := by rw [← hU]; exact (by simpa [World.setCell] using Blk.new (((W2.setCell ⟨w.heap.size, 0, none⟩ (.int .i64 N)).setCell ⟨w.heap.size, 1, none⟩ (.int .i64 D)).alloc (.cells #[.int .i64 0, .int .i64 1] 41)) #[.int .i64 1, .int .i64 0] 41)
      have g4 : w.heap.size < W2.heap.size := y0
      have g45 : W2.heap.size < W2.heap.size + 1 := Nat.lt_succ_self _
      have g5 : W2.heap.size + 1 < U.heap.size := d2.lt
      have M0 : PMem w N D W2.heap.size (W2.heap.size + 1) U.heap.size 0 1 1 0 (.slice none 0 0) [] U := ⟨d0, d1, d2, World.ownsRow_nil _ _ _ _, hBU, Nat.le_refl _⟩
      have P0 := PJ.start hin.1 hin.2.2.1 hone.out
      have hN2 := hin.2.1
      have hD2 := hin.2.2.2
      have hN1 := hin.1
      have hD1 := hin.2.2.1
      clear hU hBU d0 d1 d2 hB2 hs2 c2 x0 x1 f0 f1 y0 hin v1 v2 v3 v4 hone
      generalize W2.heap.size + 1 = p5 at *
      generalize W2.heap.size = p4 at *
      generalize U.heap.size = B at *
      obtain ⟨i0, hi, hz0, hz1, hz2⟩ := info_int
      have HI := hide hi
      clear hi
      go_loopg [6, 7, 8, 9] (N + D).toNat (fun k v rt run _ wr => ∃ (a b c d y x n : Int) (tt : Bool) (done : List Int) (vv : Value), vv = v ∧ rt = .bool tt ∧ run = .int .i64 n ∧ PJ N D a b c d y x n tt done ∧ PMem w N D p4 p5 B a b c d vv done wr ∧ (y + x).toNat ≤ k)
      case atStart => exact ⟨_, _, _, _, _, _, _, _, _, _, rfl, rfl, rfl, P0, M0, Nat.le_refl _⟩
      case round =>
        clear M0 P0
        obtain ⟨a, b, c, d, y, x, n, tt, done, vv, rfl, rfl, rfl, hP, hM, hk⟩ := hrel
        have HP := hide hP
        have HM := hide hM
        have HK := hide hk
        obtain ⟨a0, b0, c0, d0, y1, x1, n0, -, -, -, hrb, hlb, -, -⟩ := hP
        obtain ⟨hs1, hs2⟩ := HP.out.sums
        have l4 := hM.lo.lt
        have l5 := hM.hi.lt
        obtain ⟨k2, k3, -⟩ := hM.lo.two
        obtain ⟨k6, k7, -⟩ := hM.hi.two
        clear hk hM
        go_upto_region 9 with (fail)
        obtain ⟨p, hp⟩ : ∃ p, p = a + c := ⟨_, rfl⟩
        obtain ⟨q, hq⟩ : ∃ q, q = b + d := ⟨_, rfl⟩
        have p0 : 0 ≤ p := by omega
        have p2 : p ≤ 1000000 := by omega
        have q0 : 0 ≤ q := by omega
        have q2 : q ≤ 1000000 := by omega
        rw [← hp, ← hq]
        have hsame := HP.out.same
        have hless := HP.out.less
        rw [← hp, ← hq] at hsame hless
        have HSM := hide hsame
        have HLS := hide hless
        have HPE := hide hp
        have HQE := hide hq
        have hM1 := HM.out.kept ((Below.refl _ _).alloc (Nat.le_refl _) (.cells #[.int .i64 p, .int .i64 q] 41))
        have HOW := hide (fun k e => (HM.out.own.lt k e).2)
        have k9 := Blk.new wr #[.int .i64 p, .int .i64 q] 41
        generalize World.alloc wr _ = V at *
        generalize wr.heap.size = p9 at *
        clear HM hp hq hsame hless k2 k3 k6 k7 l4 l5 hs1 hs2 a0 b0 c0 d0
        obtain ⟨k0, k1, -⟩ := hM1.r.two
        obtain ⟨m0, m1, -⟩ := k9.two
        have l0 := hM1.r.lt
        have l9 := k9.lt
        by_cases h1 : p = N
        · by_cases h2 : q = D
          · have he := HSM.out.1 ⟨h1, h2⟩
            have HL := hide (HP.out.last he.1 he.2)
            obtain rfl := h1
            obtain rfl := h2
            clear he HSM HLS
            have HM := hide hM1
            by_cases hn : n = 0
            · have HRS : Hid (lastLess (pq p q) = done) := hide (by rw [HL.out, if_pos hn])
              have hn' : ¬ (n > 0) := by omega
              clear hn
              go_wp2_with fail
              exact bodyPost_ret (v := .tuple #[vv, .int .i64 0]) (by simp [results, Try.results23, go_sem]) rfl ⟨_, by rw [HR.out], by rw [HR.out]; dsimp only; rw [HRS.out]; exact RowV.of_own HM.out.own, HM.out.be⟩
            · have HRS : Hid (lastLess (pq p q) = done ++ [n]) := hide (by rw [HL.out, if_neg hn])
              have hn' : n > 0 := by omega
              clear hn
              go_wp2_with (
                at_builtin
                refine wpList_append_lies _ rfl (.tmp 57) (.tmp 59) 42 rfl B 3 i0 (.int .i64 0) 1 8 under_ints HI.out hz0 hz1 hz2 rfl (by decide) _ _ _ rfl (HM.out.own.alloc _) ⟨_, 0, none⟩ 1 1 [.int .i64 n] rfl rfl (cell_one_new _ _ _) (by intro u hu; simp at hu; subst hu; rfl) (by decide) (by unfold maxLen; omega) (by omega) (by have := HM.out.sz; simp; omega) _ rfl ?_
                intro g2 cap2 W4 ow4 gr4 at4 lt4)
              have hM4 := PMem.append (HM.out.kept ((Below.refl _ _).alloc (Nat.le_refl _) _)) (by omega) (by omega) (by omega) ow4 gr4
              exact bodyPost_ret (v := .tuple #[.slice (some ⟨g2, 0, none⟩) (done.length + 1) cap2, .int .i64 0]) (by simp [results, Try.results23, go_sem]) rfl ⟨_, by rw [HR.out], by rw [HR.out]; dsimp only; rw [HRS.out]; exact RowV.of_own hM4.own, hM4.be⟩
          · obtain rfl := h1
            have f2 : (q == D) = false := by rw [beq_eq_false_iff_ne]; exact h2
            have hyx := HP.out.ne (fun h => h2 ((HSM.out.2 h).2))
            clear h2 HSM
            go_wp2_with fail
            refine (refless_any (p, q) (p, D) V (by unfold Small; dsimp only; omega) (by unfold Small; dsimp only; omega) (by unfold Small; dsimp only; omega) (by unfold Small; dsimp only; omega)).mono ?_
            rintro e W5 ⟨rfl, hb5⟩
            rw [HLS.out]
            have hM5 := hM1.kept hb5
            have k9' := k9.kept hb5
            clear hM1 k9 hb5 HLS k0 k1 m0 m1 l0 l9
            obtain ⟨m0, m1, -⟩ := k9'.two
            obtain ⟨k2, k3, k4, k5⟩ := hM5.lo.two
            obtain ⟨k6, k7, k8, k9⟩ := hM5.hi.two
            have l9 := k9'.lt
            have l4 := hM5.lo.lt
            have l5 := hM5.hi.lt
            have HM := hide hM5
            have hsz := hM5.sz
            clear hM5
            have hlast : x < y ∨ y < x := by omega
            clear hyx
            rcases hlast with hxy | hxy
            · have hd : decide (x < y) = true := by simp [hxy]
              rw [hd]
              cases tt with
              | true =>
                have HP' := hide (HP.out.right hxy)
                rw [← HPE.out, ← HQE.out] at HP'
                clear HP HPE HQE hd k9'
                go_wp2_with fail
                go_roundg ((y - x + x).toNat)
                case measure => have := HK.out; omega
                case rel => exact ⟨p, q, c, d, y - x, x, n + 1, true, done, vv, rfl, rfl, rfl, HP'.out, HM.out.setLo g4 (by omega) (by omega) p q, Nat.le_refl _⟩
              | false =>
                have HP' := hide (HP.out.turnRight hxy)
                rw [← HPE.out, ← HQE.out] at HP'
                have HK9 := hide k9'
                clear HP HPE HQE hd k9'
                go_wp2_with (
                  at_builtin
                  refine wpList_append_lies _ rfl (.tmp 44) (.tmp 46) 42 rfl B 3 i0 (.int .i64 0) 1 8 under_ints HI.out hz0 hz1 hz2 rfl (by decide) _ _ _ rfl (HM.out.own.alloc _) ⟨_, 0, none⟩ 1 1 [.int .i64 n] rfl rfl (cell_one_new _ _ _) (by intro u hu; simp at hu; subst hu; rfl) (by decide) (by unfold maxLen; omega) (by omega) (by simp; omega) _ rfl ?_
                  intro g2 cap2 W6 ow6 gr6 at6 lt6
                  have HM4 := hide (PMem.append (HM.out.kept ((Below.refl _ _).alloc (Nat.le_refl _) _)) (by omega) (by omega) (by omega) ow6 gr6)
                  have k96 : Blk W6 p9 #[.int .i64 p, .int .i64 q] 41 := (gr6.block p9 (by simp; omega) (fun e => by have := HOW.out _ e.symm; omega)).trans (HK9.out.alloc _)
                  clear m0 m1 k2 k3 k4 k5 k6 k7 k8 k9 l9 l4 l5 ow6 gr6 at6 lt6
                  obtain ⟨m0, m1, -⟩ := k96.two
                  obtain ⟨k2, k3, k4, k5⟩ := HM4.out.lo.two
                  obtain ⟨k6, k7, k8, k9⟩ := HM4.out.hi.two
                  have l9 := k96.lt
                  have l4 := HM4.out.lo.lt
                  have l5 := HM4.out.hi.lt
                  clear k96)
                go_roundg ((y - x + x).toNat)
                case measure => have := HK.out; omega
                case rel => exact ⟨p, q, c, d, y - x, x, 1, true, done ++ [n], _, rfl, rfl, rfl, HP'.out, HM4.out.setLo g4 (by omega) (by omega) p q, Nat.le_refl _⟩
            · have hd : decide (x < y) = false := by simp; omega
              rw [hd]
              cases tt with
              | false =>
                have HP' := hide (HP.out.left hxy)
                rw [← HPE.out, ← HQE.out] at HP'
                clear HP HPE HQE hd k9'
                go_wp2_with fail
                go_roundg ((y + (x - y)).toNat)
                case measure => have := HK.out; omega
                case rel => exact ⟨a, b, p, q, y, x - y, n + 1, false, done, vv, rfl, rfl, rfl, HP'.out, HM.out.setHi (by omega) (by omega) (by omega) p q, Nat.le_refl _⟩
              | true =>
                have HP' := hide (HP.out.turnLeft hxy)
                rw [← HPE.out, ← HQE.out] at HP'
                have HK9 := hide k9'
                clear HP HPE HQE hd k9'
                go_wp2_with (
                  at_builtin
                  refine wpList_append_lies _ rfl (.tmp 44) (.tmp 46) 42 rfl B 3 i0 (.int .i64 0) 1 8 under_ints HI.out hz0 hz1 hz2 rfl (by decide) _ _ _ rfl (HM.out.own.alloc _) ⟨_, 0, none⟩ 1 1 [.int .i64 n] rfl rfl (cell_one_new _ _ _) (by intro u hu; simp at hu; subst hu; rfl) (by decide) (by unfold maxLen; omega) (by omega) (by simp; omega) _ rfl ?_
                  intro g2 cap2 W6 ow6 gr6 at6 lt6
                  have HM4 := hide (PMem.append (HM.out.kept ((Below.refl _ _).alloc (Nat.le_refl _) _)) (by omega) (by omega) (by omega) ow6 gr6)
                  have k96 : Blk W6 p9 #[.int .i64 p, .int .i64 q] 41 := (gr6.block p9 (by simp; omega) (fun e => by have := HOW.out _ e.symm; omega)).trans (HK9.out.alloc _)
                  clear m0 m1 k2 k3 k4 k5 k6 k7 k8 k9 l9 l4 l5 ow6 gr6 at6 lt6
                  obtain ⟨m0, m1, -⟩ := k96.two
                  obtain ⟨k2, k3, k4, k5⟩ := HM4.out.lo.two
                  obtain ⟨k6, k7, k8, k9⟩ := HM4.out.hi.two
                  have l9 := k96.lt
                  have l4 := HM4.out.lo.lt
                  have l5 := HM4.out.hi.lt
                  clear k96)
                go_roundg ((y + (x - y)).toNat)
                case measure => have := HK.out; omega
                case rel => exact ⟨a, b, p, q, y, x - y, 1, false, done ++ [n], _, rfl, rfl, rfl, HP'.out, HM4.out.setHi (by omega) (by omega) (by omega) p q, Nat.le_refl _⟩
        · have f1 : (p == N) = false := by rw [beq_eq_false_iff_ne]; exact h1
          have hyx := HP.out.ne (fun h => h1 ((HSM.out.2 h).1))
          clear h1 HSM
          go_wp2_with fail
          refine (refless_any (p, q) (N, D) V (by unfold Small; dsimp only; omega) (by unfold Small; dsimp only; omega) (by unfold Small; dsimp only; omega) (by unfold Small; dsimp only; omega)).mono ?_
          rintro e W5 ⟨rfl, hb5⟩
          rw [HLS.out]
          have hM5 := hM1.kept hb5
          have k9' := k9.kept hb5
          clear hM1 k9 hb5 HLS k0 k1 m0 m1 l0 l9
          obtain ⟨m0, m1, -⟩ := k9'.two
          obtain ⟨k2, k3, k4, k5⟩ := hM5.lo.two
          obtain ⟨k6, k7, k8, k9⟩ := hM5.hi.two
          have l9 := k9'.lt
          have l4 := hM5.lo.lt
          have l5 := hM5.hi.lt
          have HM := hide hM5
          have hsz := hM5.sz
          clear hM5
          have hlast : x < y ∨ y < x := by omega
          clear hyx
          rcases hlast with hxy | hxy
          · have hd : decide (x < y) = true := by simp [hxy]
            rw [hd]
            cases tt with
            | true =>
              have HP' := hide (HP.out.right hxy)
              rw [← HPE.out, ← HQE.out] at HP'
              clear HP HPE HQE hd k9'
              go_wp2_with fail
              go_roundg ((y - x + x).toNat)
              case measure => have := HK.out; omega
              case rel => exact ⟨p, q, c, d, y - x, x, n + 1, true, done, vv, rfl, rfl, rfl, HP'.out, HM.out.setLo g4 (by omega) (by omega) p q, Nat.le_refl _⟩
            | false =>
              have HP' := hide (HP.out.turnRight hxy)
              rw [← HPE.out, ← HQE.out] at HP'
              have HK9 := hide k9'
              clear HP HPE HQE hd k9'
              go_wp2_with (
                at_builtin
                refine wpList_append_lies _ rfl (.tmp 44) (.tmp 46) 42 rfl B 3 i0 (.int .i64 0) 1 8 under_ints HI.out hz0 hz1 hz2 rfl (by decide) _ _ _ rfl (HM.out.own.alloc _) ⟨_, 0, none⟩ 1 1 [.int .i64 n] rfl rfl (cell_one_new _ _ _) (by intro u hu; simp at hu; subst hu; rfl) (by decide) (by unfold maxLen; omega) (by omega) (by simp; omega) _ rfl ?_
                intro g2 cap2 W6 ow6 gr6 at6 lt6
                have HM4 := hide (PMem.append (HM.out.kept ((Below.refl _ _).alloc (Nat.le_refl _) _)) (by omega) (by omega) (by omega) ow6 gr6)
                have k96 : Blk W6 p9 #[.int .i64 p, .int .i64 q] 41 := (gr6.block p9 (by simp; omega) (fun e => by have := HOW.out _ e.symm; omega)).trans (HK9.out.alloc _)
                clear m0 m1 k2 k3 k4 k5 k6 k7 k8 k9 l9 l4 l5 ow6 gr6 at6 lt6
                obtain ⟨m0, m1, -⟩ := k96.two
                obtain ⟨k2, k3, k4, k5⟩ := HM4.out.lo.two
                obtain ⟨k6, k7, k8, k9⟩ := HM4.out.hi.two
                have l9 := k96.lt
                have l4 := HM4.out.lo.lt
                have l5 := HM4.out.hi.lt
                clear k96)
              go_roundg ((y - x + x).toNat)
              case measure => have := HK.out; omega
              case rel => exact ⟨p, q, c, d, y - x, x, 1, true, done ++ [n], _, rfl, rfl, rfl, HP'.out, HM4.out.setLo g4 (by omega) (by omega) p q, Nat.le_refl _⟩
          · have hd : decide (x < y) = false := by simp; omega
            rw [hd]
            cases tt with
            | false =>
              have HP' := hide (HP.out.left hxy)
              rw [← HPE.out, ← HQE.out] at HP'
              clear HP HPE HQE hd k9'
              go_wp2_with fail
              go_roundg ((y + (x - y)).toNat)
              case measure => have := HK.out; omega
              case rel => exact ⟨a, b, p, q, y, x - y, n + 1, false, done, vv, rfl, rfl, rfl, HP'.out, HM.out.setHi (by omega) (by omega) (by omega) p q, Nat.le_refl _⟩
            | true =>
              have HP' := hide (HP.out.turnLeft hxy)
              rw [← HPE.out, ← HQE.out] at HP'
              have HK9 := hide k9'
              clear HP HPE HQE hd k9'
              go_wp2_with (
                at_builtin
                refine wpList_append_lies _ rfl (.tmp 44) (.tmp 46) 42 rfl B 3 i0 (.int .i64 0) 1 8 under_ints HI.out hz0 hz1 hz2 rfl (by decide) _ _ _ rfl (HM.out.own.alloc _) ⟨_, 0, none⟩ 1 1 [.int .i64 n] rfl rfl (cell_one_new _ _ _) (by intro u hu; simp at hu; subst hu; rfl) (by decide) (by unfold maxLen; omega) (by omega) (by simp; omega) _ rfl ?_
                intro g2 cap2 W6 ow6 gr6 at6 lt6
                have HM4 := hide (PMem.append (HM.out.kept ((Below.refl _ _).alloc (Nat.le_refl _) _)) (by omega) (by omega) (by omega) ow6 gr6)
                have k96 : Blk W6 p9 #[.int .i64 p, .int .i64 q] 41 := (gr6.block p9 (by simp; omega) (fun e => by have := HOW.out _ e.symm; omega)).trans (HK9.out.alloc _)
                clear m0 m1 k2 k3 k4 k5 k6 k7 k8 k9 l9 l4 l5 ow6 gr6 at6 lt6
                obtain ⟨m0, m1, -⟩ := k96.two
                obtain ⟨k2, k3, k4, k5⟩ := HM4.out.lo.two
                obtain ⟨k6, k7, k8, k9⟩ := HM4.out.hi.two
                have l9 := k96.lt
                have l4 := HM4.out.lo.lt
                have l5 := HM4.out.hi.lt
                clear k96)
              go_roundg ((y + (x - y)).toNat)
              case measure => have := HK.out; omega
              case rel => exact ⟨a, b, p, q, y, x - y, 1, false, done ++ [n], _, rfl, rfl, rfl, HP'.out, HM4.out.setHi (by omega) (by omega) (by omega) p q, Nat.le_refl _⟩

end Go.Proofs.Ytjgebepeghgmcaa
