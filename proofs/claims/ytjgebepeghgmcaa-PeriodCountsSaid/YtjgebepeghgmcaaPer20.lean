/-
  Package period: Path.
-/
import Derived.Test.YtjgebepeghgmcaaPer19
import Derived.Test.YtjgebepeghgmcaaPer12
namespace Go.Proofs.Ytjgebepeghgmcaa
open Go.RowKit Go.Shelf
set_option linter.unusedVariables false
set_option linter.unusedSimpArgs false

/-- The quotients of Euclid's steps. -/
def quoF : Nat → Int → Int → List Int
  | 0, _, _ => []
  | k + 1, a, b => if 0 < b then (a / b) :: quoF k b (a % b) else []
def lastLess (q : List Int) : List Int := if q.getLast?.getD 0 - 1 = 0 then q.dropLast else q.dropLast ++ [q.getLast?.getD 0 - 1]
def pathR (r : Int × Int) : List Int × Int := if !(validR r) || decide (r.1 = 0) then ([], 1) else (lastLess (quoF 1000001 (redR r).1 (redR r).2), 0)

/-- A slice of integers that a function returns. -/
def RowV (w : World) (v : Value) (xs : List Int) : Prop := ∃ a cap, v = .slice a xs.length cap ∧ xs.length ≤ cap ∧ Row w w.heap.size a (ints xs)
theorem RowV.nil (w : World) : RowV w (.slice none 0 0) [] := ⟨none, 0, rfl, Nat.le_refl _, .inl rfl⟩
theorem RowV.below {w w' : World} {v : Value} {xs : List Int} (h : RowV w v xs) (hb : Below w.heap.size w w') : RowV w' v xs := by
  obtain ⟨a, cap, h1, h2, h3⟩ := h
  exact ⟨a, cap, h1, h2, (h3.below hb (Nat.le_refl _)).mono hb.size⟩

theorem red_in {r : Int × Int} (h : validR r = true) (h0 : r.1 ≠ 0) : 1 ≤ (redR r).1 ∧ (redR r).1 ≤ 1000000 ∧ 1 ≤ (redR r).2 ∧ (redR r).2 ≤ 1000000 := by
  obtain ⟨a, b⟩ := r
  obtain ⟨h1, h2, h3, h4⟩ := validR_in h
  dsimp only at *
  have hg : 0 < gcdI a b := by
    unfold gcdI
    have : 0 < Int.gcd a b := Int.gcd_pos_of_ne_zero_left _ h0
    omega
  have d1 : gcdI a b ∣ a := Int.gcd_dvd_left ..
  have d2 : gcdI a b ∣ b := Int.gcd_dvd_right ..
  unfold redR
  dsimp only
  obtain ⟨x, hx⟩ := d1
  obtain ⟨y, hy⟩ := d2
  generalize gcdI a b = g at *
  have ex : a / g = x := by rw [hx, Int.mul_ediv_cancel_left _ (by omega)]
  have ey : b / g = y := by rw [hy, Int.mul_ediv_cancel_left _ (by omega)]
  rw [ex, ey]
  have x1 : 0 < x := Int.pos_of_mul_pos_right (a := g) (by omega) (by omega)
  have y1 : 0 < y := Int.pos_of_mul_pos_right (a := g) (by omega) (by omega)
  have x2 : 1 * x ≤ g * x := Int.mul_le_mul_of_nonneg_right (by omega) (by omega)
  have y2 : 1 * y ≤ g * y := Int.mul_le_mul_of_nonneg_right (by omega) (by omega)
  omega

theorem quoF_fuel : ∀ (k k' : Nat) (p q : Int), 0 ≤ q → q.toNat < k → q.toNat < k' → quoF k p q = quoF k' p q
  | 0, _, _, _, _, h, _ => by omega
  | _ + 1, 0, _, _, _, _, h => by omega
  | k + 1, k' + 1, p, q, hq, h, h' => by
    unfold quoF
    by_cases h0 : 0 < q
    · have h1 : 0 ≤ p % q := Int.emod_nonneg _ (by omega)
      have h2 : p % q < q := Int.emod_lt_of_pos _ h0
      rw [if_pos h0, if_pos h0, quoF_fuel k k' q (p % q) h1 (by omega) (by omega)]
    · rw [if_neg h0, if_neg h0]
theorem quoF_step {p q : Int} (hq : 0 < q) : quoF (q.toNat + 1) p q = p / q :: quoF ((p % q).toNat + 1) q (p % q) := by
  have h1 : 0 ≤ p % q := Int.emod_nonneg _ (by omega)
  have h2 : p % q < q := Int.emod_lt_of_pos _ hq
  conv => lhs; unfold quoF
  rw [if_pos hq, quoF_fuel q.toNat ((p % q).toNat + 1) q (p % q) h1 (by omega) (by omega)]

theorem lastLess_eq (xs : List Int) (m : Nat) (hm : xs.length = m + 1) : lastLess xs = if iat xs m - 1 = 0 then xs.take m else xs.set m (iat xs m - 1) := by
  have e1 : xs.getLast?.getD 0 = iat xs m := by
    rw [List.getLast?_eq_getElem?, hm]
    rw [iat_eq xs m (by omega), Nat.add_sub_cancel, List.getElem?_eq_getElem (by omega)]
    rfl
  have e2 : xs.dropLast = xs.take m := by rw [List.dropLast_eq_take, hm, Nat.add_sub_cancel]
  unfold lastLess
  rw [e1, e2]
  split
  · rfl
  · have h : xs = xs.take m ++ [iat xs m] := by rw [← take_snoc xs m (by omega), List.take_of_length_le (by omega)]
    conv => rhs; rw [h]
    rw [List.set_append_right _ _ (by rw [List.length_take]; omega), List.length_take, Nat.min_eq_left (by omega), Nat.sub_self]
    congr 2
    rw [← h]

/-- What Path holds between two rounds. -/
structure PathI (X Y : Int) (w : World) (p q : Int) (done : List Int) (v : Value) (wr : World) : Prop where
  p1 : 1 ≤ p
  p2 : p ≤ 1000000
  q1 : 0 ≤ q
  q2 : q ≤ 1000000
  eq : done ++ quoF (q.toNat + 1) p q = quoF 1000001 X Y
  len : (done.length : Int) + q ≤ 1000000
  ne : 0 < done.length ∨ 0 < q
  inb : ∀ x ∈ done, 0 ≤ x ∧ x ≤ 1000000
  own : wr.ownsRow w.heap.size 3 1 v done.length (ints done)
  be : Below w.heap.size w wr

theorem PathI.round {X Y : Int} {w : World} {p q : Int} {done : List Int} {v v' : Value} {wr wr' : World} (h : PathI X Y w p q done v wr) (hq : 0 < q)
    (ho : wr'.ownsRow w.heap.size 3 1 v' (done.length + 1) (ints done ++ [.int .i64 (p / q)])) (hb : Below w.heap.size w wr') : PathI X Y w q (p % q) (done ++ [p / q]) v' wr' := by
  obtain ⟨h1, h2, h3, h4, h5, h6, h7, h8, h9, h10⟩ := h
  have m1 : 0 ≤ p % q := Int.emod_nonneg _ (by omega)
  have m2 : p % q < q := Int.emod_lt_of_pos _ hq
  have d1 : 0 ≤ p / q := Int.ediv_nonneg (by omega) (by omega)
  have d2 : p / q ≤ p := Int.ediv_le_self _ (by omega)
  refine ⟨by omega, by omega, m1, by omega, ?_, by simp; omega, .inl (by simp), ?_, ?_, hb⟩
  · rw [← h5, quoF_step hq, List.append_assoc]; rfl
  · intro x hx
    rcases List.mem_append.1 hx with hx | hx
    · exact h8 x hx
    · obtain rfl : x = p / q := by simpa using hx
      omega
  · have e : ints (done ++ [p / q]) = ints done ++ [.int .i64 (p / q)] := by simp [ints]
    rw [List.length_append, e]
    exact ho

theorem PathI.done {X Y : Int} {w : World} {p q : Int} {done : List Int} {v : Value} {wr : World} (h : PathI X Y w p q done v wr) (hq : ¬ 0 < q) : done = quoF 1000001 X Y := by
  have e := h.eq
  have e0 : quoF (q.toNat + 1) p q = [] := by unfold quoF; rw [if_neg hq]
  rw [e0, List.append_nil] at e
  exact e

theorem Grow.of_grownBy {w w' : World} {row : Option Nat} (h : w.grownBy w' row) {m : Nat} (hm : ∀ k, row = some k → m ≤ k) (hs : m ≤ w.heap.size) : Below m w w' :=
  ⟨h.os, h.tape, h.output, h.size, fun k hk => h.block k (by omega) (fun e => by have := hm k e.symm; omega)⟩

set_option maxRecDepth 100000 in
set_option maxHeartbeats 400000 in
theorem path_any (r : Int × Int) (w : World) :
    Calls Try.prog 22 #[.agg #[.int .i64 r.1, .int .i64 r.2]] w fun e w' =>
      ∃ v, e = .returned (.tuple #[v, .int .i64 (pathR r).2]) ∧ RowV w' v (pathR r).1 ∧ Below w.heap.size w w' := by
  have HV := hide (fun w => valid_any r w)
  have HP : Hid (pathR r = _) := hide (by unfold pathR; rfl)
  have HIN := hide (fun h h0 => @red_in r h h0)
  have HVI := hide (fun h => @validR_in r h)
  have HRD := hide (fun w => reduced_any r w)
  obtain ⟨x, y⟩ := r
  dsimp only at *
  go_enter Try.func22, Try.ntmps22
  go_wp2_with fail
  generalize hW : World.alloc w _ = V
  have hB : Below w.heap.size w V := by rw [← hW]; exact (Below.refl _ _).alloc (Nat.le_refl _) _
  have b0 : Blk V w.heap.size #[.int .i64 x, .int .i64 y] 41 := by rw [← hW]; exact Blk.new w _ _
  have hsV := hB.size
  clear hW
  refine (HV.out _).mono ?_
  rintro e W1 ⟨rfl, hb1⟩
  have c0 := b0.kept hb1
  have hB1 := hB.trans (hb1.mono hsV)
  have hs1 := hB1.size
  clear b0 hB hb1 hsV
  obtain ⟨x0, x1, _, _⟩ := c0.two
  have y0 := c0.lt
  cases hva : validR (x, y) with
  | false =>
    have HR : Hid (pathR (x, y) = ([], 1)) := hide (by rw [HP.out, hva]; rfl)
    clear HP HV HIN HVI
    go_wp2_with fail
    exact bodyPost_ret (v := .tuple #[.slice none 0 0, .int .i64 1]) (by simp [results, Try.results22, go_sem]) rfl ⟨_, by rw [HR.out], by rw [HR.out]; exact RowV.nil _, hB1⟩
  | true =>
    by_cases h0 : x = 0
    · have HR : Hid (pathR (x, y) = ([], 1)) := hide (by rw [HP.out, hva]; simp [h0])
      have hx : (x == 0) = true := by simp [h0]
      clear HP HV HIN HVI h0
      go_wp2_with fail
      exact bodyPost_ret (v := .tuple #[.slice none 0 0, .int .i64 1]) (by simp [results, Try.results22, go_sem]) rfl ⟨_, by rw [HR.out], by rw [HR.out]; exact RowV.nil _, hB1⟩
    · have hin := HIN.out hva h0
      obtain ⟨v1, v2, v3, v4⟩ := HVI.out hva
      have HR : Hid (pathR (x, y) = (lastLess (quoF 1000001 (redR (x, y)).1 (redR (x, y)).2), 0)) := hide (by rw [HP.out, hva]; simp [h0])
      have hx : (x == 0) = false := by simp [h0]
      clear HP HV HIN HVI h0
      go_wp2_with fail
      refine (HRD.out _ (by omega) (by omega) (by omega) (by omega)).mono ?_
      rintro e W2 ⟨rfl, hb2⟩
      have hB2 := hB1.trans (hb2.mono hs1)
      have hs2 := hB2.size
      clear hb2 hB1 hs1 c0 x0 x1 y0
      generalize (redR (x, y)).1 = X at *
      generalize (redR (x, y)).2 = Y at *
      go_wp2_with fail
      have hBU := hB2.alloc hs2 (.cells #[.int .i64 X, .int .i64 Y] 41)
      have bU := Blk.new W2 #[.int .i64 X, .int .i64 Y] 41
      have lU := bU.lt
      generalize World.alloc W2 _ = U at *
      obtain ⟨x0, x1, _, _⟩ := bU.two
      have hsU := hBU.size
      generalize W2.heap.size = B2 at *
      clear hB2 hs2 bU HRD
      go_quiet (fail)
      go_wp2_with fail
      obtain ⟨i0, hi, hz0, hz1, hz2⟩ := info_int
      have HI := hide hi
      clear hi x0 x1 lU
      have h0I : ∀ q, PathI X Y w X Y [] (.slice none 0 0) (U.drewN q) := fun q =>
        ⟨hin.1, hin.2.1, by omega, by omega, by rw [List.nil_append]; exact quoF_fuel _ _ _ _ (by omega) (by omega) (by omega), by simp; omega, .inr (by omega), fun x hx => (by cases hx), World.ownsRow_nil _ _ _ _, below_drewN hBU q⟩
      clear hin v1 v2 v3 v4
      go_loopw [4, 6, 7] (fun v a b wr => ∃ (p q : Int) (done : List Int), a = .int .i64 p ∧ b = .int .i64 q ∧ PathI X Y w p q done v wr) (fun _ _ b _ => (intOf b).toNat)
      case atStart => exact ⟨X, Y, [], rfl, rfl, h0I _⟩
      case round =>
        obtain ⟨p, q, done, rfl, rfl, hI⟩ := hrel
        have HJ := hide hI
        obtain ⟨p1, p2, q1, q2, _, hlen, hne, hinb, hown, hbe⟩ := hI
        have hsw := hbe.size
        by_cases hq : 0 < q
        · have hqz : (q == 0) = false := by simp; omega
          have m1 : 0 ≤ p % q := Int.emod_nonneg _ (by omega)
          have m2 : p % q < q := Int.emod_lt_of_pos _ hq
          have d1 : 0 ≤ p / q := Int.ediv_nonneg (by omega) (by omega)
          have d2 : p / q ≤ p := Int.ediv_le_self _ (by omega)
          clear hne hinb
          go_wp2_with (
            at_builtin
            refine wpList_append_lies _ rfl (.tmp 33) (.tmp 37) 42 rfl w.heap.size 3 i0 (.int .i64 0) 1 8 under_ints HI.out hz0 hz1 hz2 rfl (by decide) _ _ _ rfl (hown.alloc _) ⟨_, 0, none⟩ 1 1 [.int .i64 (p / q)] rfl rfl (cell_one_new _ _ _) (by intro u hu; simp at hu; subst hu; rfl) (by decide) (by unfold maxLen; omega) (by omega) (by simp; omega) _ rfl ?_
            intro g2 cap2 W4 ow4 gr4 at4 lt4)
          have hb4 : Below w.heap.size w W4 := ((hbe.alloc hsw _).trans (Grow.of_grownBy gr4 (fun k e => (hown.lt k e).1) (by simp; omega)))
          clear gr4 at4 lt4 hown
          go_quiet (fail)
          go_wp2
          go_roundw
          case rel => exact ⟨q, p % q, done ++ [p / q], rfl, rfl, by
            have := HJ.out.round (v' := .slice (some ⟨g2, 0, none⟩) (done.length + 1) cap2) (wr' := W4) hq ow4 hb4
            obtain ⟨r1, r2, r3, r4, r5, r6, r7, r8, r9, r10⟩ := this
            refine ⟨r1, r2, r3, r4, r5, r6, r7, r8, ?_, below_drewN r10 _⟩
            exact r9⟩
          case measure => simp [intOf]; omega
        · have hq0 : q = 0 := by omega
          have HE : Hid (done = quoF 1000001 X Y) := hide (HJ.out.done hq)
          have hl1 : 0 < done.length := by omega
          obtain ⟨m, hm⟩ : ∃ m, done.length = m + 1 := ⟨done.length - 1, by omega⟩
          rw [hm] at hown hlen
          clear HJ hq0 hne hl1
          have hL := hinb (iat done m) (by rw [iat_eq done m (by omega)]; exact List.getElem_mem _)
          have HLL := hide (lastLess_eq done m hm)
          rcases hown.2 with ⟨_, h0⟩ | ⟨g, cp, cur, rfl, hg1, hc, hle, _, _, htk⟩
          · omega
          rw [Nat.mul_one] at htk
          have hc : Blk wr g cur 3 := hc
          have HTK := hide htk
          have cm : wr.cell? ⟨g, m, none⟩ = some (.int .i64 (iat done m)) := by
            rw [cell_of_row wr g m cur _ _ hc]
            have e2 : (ints done)[m]? = cur.toList[m]? := by rw [← htk, List.getElem?_take, if_pos (by omega)]
            have e1 : (ints done)[m]? = some (.int .i64 (iat done m)) := by simp [ints, iat_eq done m (by omega : m < done.length), List.getElem?_eq_getElem (by omega : m < done.length)]
            rw [← Array.getElem?_toList, ← e2, e1]
          have hmb : m ≤ 1000000 := by omega
          have fm := hc.frozen m
          have lg := hc.lt
          have HD := hide hm
          clear hown htk hinb hm hlen
          generalize hL' : iat done m = L at *
          clear hL'
          by_cases h1 : L - 1 = 0
          · have hz : ((L - 1 : Int) == 0) = true := by simp; omega
            have HLE : Hid (lastLess done = done.take m) := hide (by rw [HLL.out, if_pos h1])
            clear h1
            go_wp2
            have hb2 := hbe.setCell (p := ⟨g, m, none⟩) hg1 (.int .i64 (L - 1))
            have bl2 := hc.set m (.int .i64 (L - 1))
            refine bodyPost_ret (v := .tuple #[.slice (some ⟨g, 0, none⟩) m cp, .int .i64 0]) (by simp [results, Try.results22, go_sem]) rfl ⟨_, by rw [HR.out], ?_, hb2⟩
            rw [HR.out]
            dsimp only
            rw [← HE.out, HLE.out]
            refine ⟨some ⟨g, 0, none⟩, cp, by rw [List.length_take, HD.out, Nat.min_eq_left (by omega)], by rw [List.length_take, HD.out]; omega, ?_⟩
            refine (row_of_heap bl2 ?_).mono bl2.lt
            rw [ints_length, List.length_take, HD.out, Nat.min_eq_left (by omega)]
            have e3 : ints (done.take m) = (cur.toList.take (m + 1)).take m := by rw [HTK.out]; simp [ints, List.map_take]
            rw [e3, List.take_take, Nat.min_eq_left (by omega), Array.toList_setIfInBounds]
            exact List.take_set_of_le (Nat.le_refl _)
          · have hz : ((L - 1 : Int) == 0) = false := by rw [beq_eq_false_iff_ne]; exact h1
            have HLE : Hid (lastLess done = done.set m (L - 1)) := hide (by rw [HLL.out, if_neg h1])
            clear h1
            go_wp2
            have hb2 := hbe.setCell (p := ⟨g, m, none⟩) hg1 (.int .i64 (L - 1))
            have bl2 := hc.set m (.int .i64 (L - 1))
            refine bodyPost_ret (v := .tuple #[.slice (some ⟨g, 0, none⟩) (m + 1) cp, .int .i64 0]) (by simp [results, Try.results22, go_sem]) rfl ⟨_, by rw [HR.out], ?_, hb2⟩
            rw [HR.out]
            dsimp only
            rw [← HE.out, HLE.out]
            refine ⟨some ⟨g, 0, none⟩, cp, by rw [List.length_set, HD.out], by rw [List.length_set, HD.out]; exact hle, ?_⟩
            refine (row_of_heap bl2 ?_).mono bl2.lt
            rw [ints_length, List.length_set, HD.out]
            have e3 : ints (done.set m (L - 1)) = (cur.toList.take (m + 1)).set m (.int .i64 (L - 1)) := by rw [HTK.out]; simp [ints, List.map_set]
            rw [e3, Array.toList_setIfInBounds, List.take_set]

end Go.Proofs.Ytjgebepeghgmcaa
