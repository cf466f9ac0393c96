/-
  Skies: the plain model of truth, and what is between two blocks while it runs. Skies are valid nets; what truth makes is true. Truth's answer is a truth. Openers of arguments: a sky by numbers, legs, bytes.
-/
import Derived.Test.YtlbhnicengolfaaMade
import Derived.Test.YtlbhnicengolfaaRtRoot
/-! ## SkyX: Skies: the plain model of truth, and what is between two blocks while it runs. -/
namespace Go.Proofs.Ytlbhnicengolfaa
open Go.RowKit
set_option linter.unusedVariables false
set_option linter.unusedSimpArgs false

/-- The first k elements made anew. -/
def upd {α : Type} (f : Nat → α) (L : List α) (k : Nat) : List α := (List.range k).map f ++ L.drop k
theorem upd_len {α : Type} (f : Nat → α) (L : List α) {k : Nat} (h : k ≤ L.length) : (upd f L k).length = L.length := by simp [upd]; omega
theorem upd_set {α : Type} (f : Nat → α) (L : List α) {k : Nat} (h : k < L.length) : (upd f L k).set k (f k) = upd f L (k + 1) := by
  have e2 : ∀ v : α, (L.drop k).set 0 v = v :: L.drop (k + 1) := fun v => by rw [List.drop_eq_getElem_cons h]; rfl
  unfold upd
  rw [List.set_append_right _ _ (by simp), List.range_succ, List.map_append, List.append_assoc]
  simp [e2]
theorem upd_zero {α : Type} (f : Nat → α) (L : List α) : upd f L 0 = L := by simp [upd]
theorem upd_all {α : Type} (f : Nat → α) (L : List α) {n : Nat} (h : n = L.length) : upd f L n = (List.range n).map f := by subst h; simp [upd]
theorem upd_at {α : Type} (f : Nat → α) (L : List α) (k : Nat) (d : α) (h : k < L.length) : (upd f L k).getD k d = L.getD k d := by
  unfold upd
  rw [List.getD_eq_getElem?_getD, List.getElem?_append_right (by simp), List.getD_eq_getElem?_getD]
  simp

/-- The new quantities of a triangle, chosen so that it holds. -/
def tX (lg : Nat → Int) (xs : List Int) (t : Tri) : List Int :=
  if t.1 < t.2.2 ∧ t.2.1 < t.2.2 then xs.set t.2.2.toNat (xs.getD t.1.toNat 0 + xs.getD t.2.1.toNat 0)
  else (xs.set t.1.toNat (lg t.1.toNat % (xs.getD t.2.2.toNat 0 + 1))).set t.2.1.toNat (xs.getD t.2.2.toNat 0 - lg t.1.toNat % (xs.getD t.2.2.toNat 0 + 1))
def XB (M : Int) (xs : List Int) : Prop := ∀ i, 0 ≤ xs.getD i 0 ∧ xs.getD i 0 ≤ M
theorem XB.mono {M M' : Int} {xs : List Int} (h : XB M xs) (hm : M ≤ M') : XB M' xs := fun i => ⟨(h i).1, Int.le_trans (h i).2 hm⟩
theorem XB.set {M : Int} {xs : List Int} (h : XB M xs) (q : Nat) {v : Int} (h0 : 0 ≤ v) (h1 : v ≤ M) : XB M (xs.set q v) := fun i => by
  rw [List.getD_eq_getElem?_getD, List.getElem?_set]
  split
  · split
    · exact ⟨h0, h1⟩
    · simp; omega
  · rw [← List.getD_eq_getElem?_getD]; exact h i
theorem tX_B {M : Int} {lg : Nat → Int} {xs : List Int} (h : XB M xs) (hl : ∀ i, 0 ≤ lg i) (t : Tri) : XB (2 * M) (tX lg xs t) := by
  have ha := h t.1.toNat
  have hb := h t.2.1.toNat
  have hw := h t.2.2.toNat
  have h2 : XB (2 * M) xs := h.mono (by omega)
  unfold tX
  split
  · exact h2.set _ (by omega) (by omega)
  · have e0 := Int.emod_nonneg (lg t.1.toNat) (b := xs.getD t.2.2.toNat 0 + 1) (by omega)
    have e1 := Int.emod_lt_of_pos (lg t.1.toNat) (b := xs.getD t.2.2.toNat 0 + 1) (by omega)
    exact (h2.set _ (by omega) (by omega)).set _ (by omega) (by omega)
theorem tX_len (lg : Nat → Int) (xs : List Int) (t : Tri) : (tX lg xs t).length = xs.length := by unfold tX; split <;> simp
def tXs (lg : Nat → Int) (ts : List Tri) (xs : List Int) : List Int := ts.foldl (tX lg) xs
theorem tXs_len (lg : Nat → Int) : ∀ (ts : List Tri) (xs : List Int), (tXs lg ts xs).length = xs.length
  | [], _ => rfl
  | t :: ts, xs => by
    show (tXs lg ts (tX lg xs t)).length = xs.length
    rw [tXs_len lg ts, tX_len]
theorem tXs_snoc (lg : Nat → Int) (ts : List Tri) (t : Tri) (xs : List Int) : tXs lg (ts ++ [t]) xs = tX lg (tXs lg ts xs) t := by unfold tXs; rw [List.foldl_append]; rfl
theorem tXs_B {lg : Nat → Int} (hl : ∀ i, 0 ≤ lg i) : ∀ (ts : List Tri) (xs : List Int), XB 65535 xs → XB (65535 * 2 ^ ts.length) (tXs lg ts xs) := by
  have key : ∀ (ts : List Tri) (M : Int) (xs : List Int), XB M xs → XB (M * 2 ^ ts.length) (tXs lg ts xs) := by
    intro ts
    induction ts with
    | nil => intro M xs h; simpa [tXs] using h
    | cons t ts ih =>
      intro M xs h
      have := ih (2 * M) _ (tX_B h hl t)
      rw [show M * 2 ^ (t :: ts).length = 2 * M * 2 ^ ts.length by rw [List.length_cons, Int.pow_succ, Int.mul_comm _ 2, ← Int.mul_assoc, Int.mul_comm M 2]]
      exact this
  exact fun ts xs h => key ts 65535 xs h
/-- The squares that are true. -/
def skyX (s : TSky) (lg : Nat → Int) : List Int := tXs lg (skyNet s).ts ((List.range (1 + 2 * skyK s)).map lg)
def truS (s : TSky) (q : Nat) (y : Int) : Sp := (max 0 (rt y - s.sb (2 * q) % 4), rtUp y + s.sb (2 * q + 1) % 4)
/-- The net of which they are true. -/
def skyTru (s : TSky) (lg : Nat → Int) : TNet := ⟨(List.range (1 + 2 * skyK s)).map fun q => truS s q ((skyX s lg).getD q 0), (skyNet s).ts⟩
theorem skyX_len (s : TSky) (lg : Nat → Int) : (skyX s lg).length = 1 + 2 * skyK s := by unfold skyX; rw [tXs_len]; simp
structure LegOk (lg : Nat → Int) : Prop where
  lo : ∀ i, 0 ≤ lg i
  hi : ∀ i, lg i ≤ 65535
theorem leg_B {lg : Nat → Int} (h : LegOk lg) (N : Nat) : XB 65535 ((List.range N).map lg) := fun i => by
  rw [List.getD_eq_getElem?_getD, List.getElem?_map]
  rcases Nat.lt_or_ge i N with hi | hi
  · rw [List.getElem?_range hi]; exact ⟨h.lo i, h.hi i⟩
  · rw [List.getElem?_eq_none (by simpa using hi)]; simp

theorem skyTs_tri (lk : List (Int × Int)) {k : Nat} : ∀ {n}, k < n → tri (skyTs lk n) k = skyT k (lk.getD k (0, 0))
  | n + 1, h => by
    unfold tri skyTs
    rw [List.getD_eq_getElem?_getD]
    rcases Nat.lt_or_ge k n with hk | hk
    · rw [List.getElem?_append_left (by rw [skyTs_len]; exact hk), ← List.getD_eq_getElem?_getD]
      exact skyTs_tri lk hk
    · obtain rfl : k = n := by omega
      rw [List.getElem?_append_right (by rw [skyTs_len]; exact Nat.le_refl _), skyTs_len]
      simp
theorem skyT_in (k : Nat) (l : Int × Int) (h : 0 ≤ l.1) : (∀ o ∈ cor (skyT k l), 0 ≤ o ∧ o < 1 + 2 * ((k : Int) + 1)) ∧ (skyT k l).1 ≠ (skyT k l).2.1 ∧ (skyT k l).1 ≠ (skyT k l).2.2 ∧ (skyT k l).2.1 ≠ (skyT k l).2.2 := by
  have e0 := Int.emod_nonneg l.1 (b := 1 + 2 * (k : Int)) (by omega)
  have e1 := Int.emod_lt_of_pos l.1 (b := 1 + 2 * (k : Int)) (by omega)
  unfold skyT
  split
  · refine ⟨fun o ho => ?_, by dsimp only; omega, by dsimp only; omega, by dsimp only; omega⟩
    simp only [cor, List.mem_cons, List.not_mem_nil, or_false] at ho
    rcases ho with rfl | rfl | rfl <;> omega
  · refine ⟨fun o ho => ?_, by dsimp only; omega, by dsimp only; omega, by dsimp only; omega⟩
    simp only [cor, List.mem_cons, List.not_mem_nil, or_false] at ho
    rcases ho with rfl | rfl | rfl <;> omega
theorem sky_tri {s : TSky} (hs : SkyOk s) {k : Nat} (hk : k < skyK s) : ∃ a b c : Nat, tri (skyNet s).ts k = ((a : Int), (b : Int), (c : Int)) ∧ a < 1 + 2 * skyK s ∧ b < 1 + 2 * skyK s ∧ c < 1 + 2 * skyK s ∧ a ≠ b ∧ a ≠ c ∧ b ≠ c := by
  have e : tri (skyNet s).ts k = skyT k (s.lk.getD k (0, 0)) := skyTs_tri s.lk hk
  obtain ⟨h1, h2, h3, h4⟩ := skyT_in k (s.lk.getD k (0, 0)) (hs.lk k).1
  rw [e]
  generalize skyT k (s.lk.getD k (0, 0)) = t at *
  obtain ⟨a, b, c⟩ := t
  have ha := h1 a (by simp [cor])
  have hb := h1 b (by simp [cor])
  have hc := h1 c (by simp [cor])
  dsimp only at h2 h3 h4
  exact ⟨a.toNat, b.toNat, c.toNat, by rw [Int.toNat_of_nonneg ha.1, Int.toNat_of_nonneg hb.1, Int.toNat_of_nonneg hc.1], by omega, by omega, by omega, by omega, by omega, by omega⟩
theorem skyX_B (s : TSky) {lg : Nat → Int} (h : LegOk lg) {k : Nat} (hk : k ≤ skyK s) : XB 524280 (tXs lg ((skyNet s).ts.take k) ((List.range (1 + 2 * skyK s)).map lg)) := by
  have h1 := tXs_B h.lo ((skyNet s).ts.take k) _ (leg_B h (1 + 2 * skyK s))
  refine h1.mono ?_
  have h2 : ((skyNet s).ts.take k).length ≤ 3 := by rw [List.length_take]; have : (skyNet s).ts.length = skyK s := skyTs_len _ _; unfold skyK at *; omega
  generalize ((skyNet s).ts.take k).length = m at h2
  rcases m with _ | _ | _ | _ | m <;> first | decide | omega
/-- The cells of legs. -/
def legC (lg : Nat → Int) : Array Value := #[.int .u16 (lg 0), .int .u16 (lg 1), .int .u16 (lg 2), .int .u16 (lg 3), .int .u16 (lg 4), .int .u16 (lg 5), .int .u16 (lg 6)]
theorem legC_get {lg : Nat → Int} {i : Nat} (hi : i < 7) : (legC lg)[i]? = some (.int .u16 (lg i)) := by
  rcases i with _ | _ | _ | _ | _ | _ | _ | i
  all_goals first | rfl | omega

/-- While truth runs: the sky at b, legs at b + 1, the net at nb, its rows, the squares at gx. -/
structure TruIn (w : World) (b : Nat) (la : Option Addr) (ln lc : Nat) (s : TSky) (lg : Nat → Int) (nb sg N scap : Nat) (sp : List Sp) (T : Nat) (ts : List Tri) (vt : Value) (gx : Nat) (xs : List Int) (wr : World) : Prop where
  k0 : Blk wr b (skyC la ln lc s) 63
  k1 : Blk wr (b + 1) (legC lg) 69
  k2 : Blk wr (b + 1 + 1) #[.slice none 0 0, .slice none 0 0] 25
  k3 : Blk wr nb #[.slice (some ⟨sg, 0, none⟩) N scap, vt] 25
  kx : Blk wr gx (ints xs).toArray 3
  os : wr.ownsRow (b + 1 + 1 + 1) 53 2 (.slice (some ⟨sg, 0, none⟩) N scap) N (spans sp)
  ot : wr.ownsRow (b + 1 + 1 + 1) 75 3 vt T (tris ts)
  be : Below b w wr
  hn : b + 1 + 1 + 1 ≤ nb
  hg : b + 1 + 1 + 1 ≤ gx
section
variable {w : World} {b : Nat} {la : Option Addr} {ln lc : Nat} {s : TSky} {lg : Nat → Int} {nb sg N scap : Nat} {sp : List Sp} {T : Nat} {ts : List Tri} {vt : Value} {gx : Nat} {xs : List Int} {wr : World}
theorem TruIn.kept (h : TruIn w b la ln lc s lg nb sg N scap sp T ts vt gx xs wr) {W : World} (hb : Below wr.heap.size wr W) : TruIn w b la ln lc s lg nb sg N scap sp T ts vt gx xs W :=
  ⟨h.k0.kept hb, h.k1.kept hb, h.k2.kept hb, h.k3.kept hb, h.kx.kept hb, own_kept h.os hb, own_kept h.ot hb, h.be.trans (hb.mono (by have := h.k0.lt; omega)), h.hn, h.hg⟩
theorem TruIn.setX (h : TruIn w b la ln lc s lg nb sg N scap sp T ts vt gx xs wr) (q : Nat) (v : Int) : TruIn w b la ln lc s lg nb sg N scap sp T ts vt gx (xs.set q v) (wr.setCell ⟨gx, q, none⟩ (.int .i64 v)) :=
  have hg := h.hg
  have hne : nb ≠ gx := fun e => by
    have h1 := h.k3
    rw [e] at h1
    have := h1.symm.trans h.kx
    injection this with this
    injection this with _ h2 _
    exact absurd h2 (by decide)
  ⟨h.k0.other (p := ⟨gx, q, none⟩) (show b ≠ gx by omega) _, h.k1.other (p := ⟨gx, q, none⟩) (show b + 1 ≠ gx by omega) _, h.k2.other (p := ⟨gx, q, none⟩) (show b + 1 + 1 ≠ gx by omega) _, h.k3.other (p := ⟨gx, q, none⟩) hne _,
    by have := h.kx.set q (.int .i64 v); rw [ints_set] at this; exact this, own_set h.os h.kx (by decide), own_set h.ot h.kx (by decide), h.be.setCell (p := ⟨gx, q, none⟩) (show b ≤ gx by omega) _, h.hn, h.hg⟩
theorem TruIn.setS (h : TruIn w b la ln lc s lg nb sg N scap sp T ts vt gx xs wr) (q : Nat) (x y : Int) :
    TruIn w b la ln lc s lg nb sg N scap (sp.set q (x, y)) T ts vt gx xs ((wr.setCell ⟨sg, q * 2, none⟩ (.int .i64 x)).setCell ⟨sg, q * 2 + 1, none⟩ (.int .i64 y)) :=
  have g := grownBy_trans (own2_grown wr sg (q * 2) (.int .i64 x)) (own2_grown (wr.setCell ⟨sg, q * 2, none⟩ (.int .i64 x)) sg (q * 2 + 1) (.int .i64 y))
  ⟨blk_grown h.k0 g fun j e => ownBlk h.os (g := j) (hv := e) h.k0 (by decide), blk_grown h.k1 g fun j e => ownBlk h.os (g := j) (hv := e) h.k1 (by decide), blk_grown h.k2 g fun j e => ownBlk h.os (g := j) (hv := e) h.k2 (by decide),
    blk_grown h.k3 g fun j e => ownBlk h.os (g := j) (hv := e) h.k3 (by decide), blk_grown h.kx g fun j e => ownBlk h.os (g := j) (hv := e) h.kx (by decide), own2_set h.os q x y, h.ot.kept g (own_ne h.ot h.os (by decide)),
    below_own h.be h.os (by omega) (by have := h.k0.lt; omega) g, h.hn, h.hg⟩
theorem TruIn.lo (h : TruIn w b la ln lc s lg nb sg N scap sp T ts vt gx xs wr) {q : Nat} (hq : q < 7) : wr.cell? ⟨b, 1 + q * 2, none⟩ = some (.int .u8 (s.sb (2 * q))) ∧ wr.cell? ⟨b, 1 + q * 2 + 1, none⟩ = some (.int .u8 (s.sb (2 * q + 1))) := by
  have e0 := h.k0.cell (1 + 2 * q)
  have e1 := h.k0.cell (1 + (2 * q + 1))
  rw [skyC_get (by omega)] at e0 e1
  exact ⟨by rw [show q * 2 = 2 * q by omega]; exact e0, by rw [show 1 + q * 2 + 1 = 1 + (2 * q + 1) by omega]; exact e1⟩
theorem TruIn.leg (h : TruIn w b la ln lc s lg nb sg N scap sp T ts vt gx xs wr) {q : Nat} (hq : q < 7) : wr.cell? ⟨b + 1, q, none⟩ = some (.int .u16 (lg q)) := by
  have := h.k1.cell q
  rwa [legC_get hq] at this
theorem TruIn.x (h : TruIn w b la ln lc s lg nb sg N scap sp T ts vt gx xs wr) {q : Nat} (hq : q < xs.length) : wr.cell? ⟨gx, q, none⟩ = some (.int .i64 (xs.getD q 0)) ∧ wr.frozen? ⟨gx, q, none⟩ = false := by
  refine ⟨?_, h.kx.frozen q⟩
  rw [h.kx.cell q]
  simp [ints, List.getD, hq]
end

end Go.Proofs.Ytlbhnicengolfaa

/-! ## SkyP: Skies are valid nets; what truth makes is true. Truth's answer is a truth. -/
namespace Go.Proofs.Ytlbhnicengolfaa
open Go.RowKit
set_option linter.unusedVariables false
set_option linter.unusedSimpArgs false

theorem chkL_of (N : Nat) : ∀ (r pre : List Tri), (∀ i, i < r.length → chk1 N (pre ++ r.take i) (tri r i) = 0) → chkL N pre r = 0
  | [], _, _ => rfl
  | t :: r, pre, h => by
    have h0 := h 0 (by simp)
    have e0 : chk1 N pre t = 0 := by simpa [tri] using h0
    unfold chkL
    rw [if_neg (by rw [e0]; simp)]
    refine chkL_of N r (pre ++ [t]) fun i hi => ?_
    have := h (i + 1) (by simpa using hi)
    simpa [tri] using this
theorem check_of {n : TNet} (h : NOk n) : checkT n = 0 := by
  have h1 := h.l1
  have h2 := h.l2
  have h3 := h.l3
  unfold checkT
  rw [if_neg (by omega), if_neg (by omega), if_neg, chkL_of _ _ _ fun i hi => by simpa using h.tr i hi]
  intro hb
  obtain ⟨s, hs, hb⟩ := List.any_eq_true.1 hb
  obtain ⟨i, hi, rfl⟩ := List.mem_iff_getElem.1 hs
  have := h.sp i hi
  rw [span_eq hi] at hb
  simp [badS] at hb
  omega

/-! ### the triangles of a sky -/
theorem conn_fresh {pre : List Tri} {q p : Int} (hq : ∀ t ∈ pre, q ∉ cor t) (h : Conn pre q p) : p = q := by
  induction h with
  | refl => rfl
  | step t _ ht h1 _ ih => subst ih; exact absurd h1 (hq t ht)
theorem skyTs_in (lk : List (Int × Int)) (h : ∀ i, 0 ≤ (lk.getD i (0, 0)).1) : ∀ k, ∀ t ∈ skyTs lk k, ∀ o ∈ cor t, 0 ≤ o ∧ o < 1 + 2 * (k : Int)
  | 0, t, ht => by cases ht
  | k + 1, t, ht => by
    intro o ho
    rw [skyTs, List.mem_append, List.mem_singleton] at ht
    rcases ht with ht | rfl
    · have := skyTs_in lk h k t ht o ho
      omega
    · have := (skyT_in k (lk.getD k (0, 0)) (h k)).1 o ho
      omega
theorem skyTs_take (lk : List (Int × Int)) {k : Nat} : ∀ {n}, k ≤ n → (skyTs lk n).take k = skyTs lk k
  | 0, h => by obtain rfl : k = 0 := by omega
               rfl
  | n + 1, h => by
    rcases Nat.lt_or_ge n k with hk | hk
    · obtain rfl : k = n + 1 := by omega
      exact List.take_of_length_le (by rw [skyTs_len]; exact Nat.le_refl _)
    · rw [skyTs, List.take_append_of_le_length (by rw [skyTs_len]; exact hk)]
      exact skyTs_take lk hk
theorem sky_chk {s : TSky} (hs : SkyOk s) {k : Nat} (hk : k < skyK s) : chk1 (1 + 2 * skyK s) ((skyNet s).ts.take k) (tri (skyNet s).ts k) = 0 := by
  have hl0 : ∀ i, 0 ≤ (s.lk.getD i (0, 0)).1 := fun i => (hs.lk i).1
  have hk3 : skyK s ≤ 3 := by unfold skyK; omega
  have e1 : (skyNet s).ts.take k = skyTs s.lk k := skyTs_take s.lk (Nat.le_of_lt hk)
  have e2 : tri (skyNet s).ts k = skyT k (s.lk.getD k (0, 0)) := skyTs_tri s.lk hk
  obtain ⟨h1, h2, h3, h4⟩ := skyT_in k (s.lk.getD k (0, 0)) (hl0 k)
  have hpre := skyTs_in s.lk hl0 k
  have hU : ∀ t ∈ skyTs s.lk k, ∀ o ∈ cor t, o ∈ idx (1 + 2 * skyK s) := fun t ht o ho => mem_idx.2 (by have := hpre t ht o ho; omega)
  have hfresh : ∀ q : Int, 1 + 2 * (k : Int) ≤ q → ∀ t ∈ skyTs s.lk k, q ∉ cor t := fun q hq t ht ho => by have := hpre t ht q ho; omega
  have hcon : ∀ q p : Int, q ∈ idx (1 + 2 * skyK s) → q ≠ p → (1 + 2 * (k : Int) ≤ q ∨ 1 + 2 * (k : Int) ≤ p) → conB (skyTs s.lk k) q p = false := fun q p hq hne hor => by
    unfold conB
    rw [decide_eq_false_iff_not, vis_iff hU (by rw [idx_length]; omega) hq]
    intro hc
    rcases hor with h | h
    · exact hne (conn_fresh (hfresh q h) hc).symm
    · exact hne (conn_fresh (hfresh p h) hc.symm)
  rw [e1, e2]
  have hor : (1 + 2 * (k : Int) ≤ (skyT k (s.lk.getD k (0, 0))).1 ∨ 1 + 2 * (k : Int) ≤ (skyT k (s.lk.getD k (0, 0))).2.1) ∧ (1 + 2 * (k : Int) ≤ (skyT k (s.lk.getD k (0, 0))).1 ∨ 1 + 2 * (k : Int) ≤ (skyT k (s.lk.getD k (0, 0))).2.2) ∧ (1 + 2 * (k : Int) ≤ (skyT k (s.lk.getD k (0, 0))).2.1 ∨ 1 + 2 * (k : Int) ≤ (skyT k (s.lk.getD k (0, 0))).2.2) := by
    unfold skyT
    split <;> (dsimp only; omega)
  generalize skyT k (s.lk.getD k (0, 0)) = t at *
  have ha := h1 t.1 (by simp [cor])
  have hb := h1 t.2.1 (by simp [cor])
  unfold chk1
  rw [if_neg, if_neg (by omega), if_neg]
  · rw [hcon _ _ (mem_idx.2 (by omega)) h2 hor.1, hcon _ _ (mem_idx.2 (by omega)) h3 hor.2.1, hcon _ _ (mem_idx.2 (by omega)) h4 hor.2.2]
    simp
  · intro h
    obtain ⟨o, ho, hb⟩ := List.any_eq_true.1 h
    have := h1 o ho
    simp [inR] at hb
    omega
theorem sky_ok {s : TSky} (hs : SkyOk s) {sp : List Sp} (hl : sp.length = 1 + 2 * skyK s) (hsp : ∀ i, i < sp.length → 0 ≤ los sp i ∧ los sp i ≤ his sp i ∧ his sp i ≤ 10000) : NOk ⟨sp, (skyNet s).ts⟩ := by
  have hk3 : skyK s ≤ 3 := by unfold skyK; omega
  have ht : (skyNet s).ts.length = skyK s := skyTs_len _ _
  exact ⟨by show 1 ≤ sp.length; omega, by show sp.length ≤ 11; omega, by show (skyNet s).ts.length ≤ 5; omega, hsp, fun i hi => by
    show chk1 sp.length ((skyNet s).ts.take i) (tri (skyNet s).ts i) = 0
    rw [hl]
    exact sky_chk hs (by have : i < (skyNet s).ts.length := hi; omega)⟩
theorem map_los (f : Nat → Sp) {N i : Nat} (h : i < N) : los ((List.range N).map f) i = (f i).1 ∧ his ((List.range N).map f) i = (f i).2 := by
  simp [los, his, List.getD, h]
theorem skyNet_ok {s : TSky} (hs : SkyOk s) : NOk (skyNet s) := by
  refine sky_ok (sp := (skyNet s).sp) hs (by simp [skyNet]) fun i hi => ?_
  have hi' : i < 1 + 2 * skyK s := by simpa [skyNet] using hi
  obtain ⟨e1, e2⟩ := map_los (skyS s) hi'
  have b0 := hs.sb (2 * i)
  have b1 := hs.sb (2 * i + 1)
  show 0 ≤ los ((List.range (1 + 2 * skyK s)).map (skyS s)) i ∧ los ((List.range (1 + 2 * skyK s)).map (skyS s)) i ≤ his ((List.range (1 + 2 * skyK s)).map (skyS s)) i ∧ his ((List.range (1 + 2 * skyK s)).map (skyS s)) i ≤ 10000
  rw [e1, e2]
  unfold skyS
  dsimp only
  omega

/-! ### what is true -/
def HX (xs : List Int) (t : Tri) : Prop := xs.getD t.1.toNat 0 + xs.getD t.2.1.toNat 0 = xs.getD t.2.2.toNat 0
theorem set_other {xs : List Int} {i j : Nat} (h : j ≠ i) (v : Int) : (xs.set i v).getD j 0 = xs.getD j 0 := by
  rw [List.getD_eq_getElem?_getD, List.getElem?_set, if_neg (fun e => h e.symm), ← List.getD_eq_getElem?_getD]
theorem set_same {xs : List Int} {i : Nat} (h : i < xs.length) (v : Int) : (xs.set i v).getD i 0 = v := by
  rw [List.getD_eq_getElem?_getD, List.getElem?_set, if_pos rfl, if_pos h]; rfl
theorem tX_other (lg : Nat → Int) (xs : List Int) (k : Nat) (l : Int × Int) (h : 0 ≤ l.1) {j : Nat} (hj : j < 1 + 2 * k) : (tX lg xs (skyT k l)).getD j 0 = xs.getD j 0 := by
  have e0 := Int.emod_nonneg l.1 (b := 1 + 2 * (k : Int)) (by omega)
  have e1 := Int.emod_lt_of_pos l.1 (b := 1 + 2 * (k : Int)) (by omega)
  unfold tX skyT
  split
  · dsimp only
    rw [if_neg (by omega), set_other (by omega), set_other (by omega)]
  · dsimp only
    rw [if_pos (by omega), set_other (by omega)]
theorem tX_holds (lg : Nat → Int) (xs : List Int) (k : Nat) (l : Int × Int) (h : 0 ≤ l.1) (hl : 2 + 2 * k < xs.length) : HX (tX lg xs (skyT k l)) (skyT k l) := by
  have e0 := Int.emod_nonneg l.1 (b := 1 + 2 * (k : Int)) (by omega)
  have e1 := Int.emod_lt_of_pos l.1 (b := 1 + 2 * (k : Int)) (by omega)
  unfold HX tX skyT
  split
  · dsimp only
    rw [if_neg (by omega), set_other (j := (1 + 2 * (k : Int)).toNat) (by omega), set_same (by omega), set_same (by rw [List.length_set]; omega), set_other (j := (l.1 % (1 + 2 * (k : Int))).toNat) (by omega), set_other (j := (l.1 % (1 + 2 * (k : Int))).toNat) (by omega)]
    omega
  · dsimp only
    rw [if_pos (by omega), set_other (j := (l.1 % (1 + 2 * (k : Int))).toNat) (by omega), set_other (j := (1 + 2 * (k : Int)).toNat) (by omega), set_same (by omega)]
theorem tXs_holds {lk : List (Int × Int)} (h : ∀ i, 0 ≤ (lk.getD i (0, 0)).1) (lg : Nat → Int) (xs : List Int) : ∀ k, 2 * k < xs.length → ∀ t ∈ skyTs lk k, HX (tXs lg (skyTs lk k) xs) t
  | 0, _, t, ht => by cases ht
  | k + 1, hl, t, ht => by
    rw [skyTs, tXs_snoc]
    rw [skyTs, List.mem_append, List.mem_singleton] at ht
    rcases ht with ht | rfl
    · have ih := tXs_holds h lg xs k (by omega) t ht
      have hin := skyTs_in lk h k t ht
      have ha := hin t.1 (by simp [cor])
      have hb := hin t.2.1 (by simp [cor])
      have hc := hin t.2.2 (by simp [cor])
      unfold HX at *
      rw [tX_other _ _ _ _ (h k) (by omega), tX_other _ _ _ _ (h k) (by omega), tX_other _ _ _ _ (h k) (by omega)]
      exact ih
    · exact tX_holds _ _ _ _ (h k) (by rw [tXs_len]; omega)
def xF (xs : List Int) : Int → Int := fun q => xs.getD q.toNat 0
theorem skyX_range (s : TSky) {lg : Nat → Int} (h : LegOk lg) : XB 524280 (skyX s lg) := by
  have := skyX_B s h (Nat.le_refl _)
  rwa [List.take_of_length_le (by show (skyTs s.lk (skyK s)).length ≤ _; rw [skyTs_len]; exact Nat.le_refl _)] at this
theorem rt_small {y : Int} (h0 : 0 ≤ y) (h1 : y ≤ 524280) : 0 ≤ rt y ∧ rt y ≤ 1000 ∧ rt y * rt y ≤ y ∧ rt y ≤ rtUp y ∧ rtUp y ≤ rt y + 1 ∧ y ≤ rtUp y * rtUp y := by
  obtain ⟨a, b, c⟩ := rt_spec (s := y) h0 (by omega)
  refine ⟨a, ?_, b, ?_⟩
  · rcases Int.lt_or_le 1000 (rt y) with h | h
    · have := sq_mono (a := 1001) (b := rt y) (by omega) (by omega); omega
    · exact h
  · unfold rtUp
    split <;> omega
theorem truS_ok {s : TSky} (hs : SkyOk s) (q : Nat) {y : Int} (h0 : 0 ≤ y) (h1 : y ≤ 524280) : 0 ≤ (truS s q y).1 ∧ (truS s q y).1 ≤ (truS s q y).2 ∧ (truS s q y).2 ≤ 10000 ∧ (truS s q y).1 * (truS s q y).1 ≤ y ∧ y ≤ (truS s q y).2 * (truS s q y).2 := by
  obtain ⟨a, b, c, d, e, f⟩ := rt_small h0 h1
  have b0 := hs.sb (2 * q)
  have b1 := hs.sb (2 * q + 1)
  have m0 : 0 ≤ s.sb (2 * q) % 4 := by omega
  have m1 : 0 ≤ s.sb (2 * q + 1) % 4 ∧ s.sb (2 * q + 1) % 4 ≤ 3 := by omega
  unfold truS
  dsimp only
  have hlo : max 0 (rt y - s.sb (2 * q) % 4) ≤ rt y := by omega
  have s1 := sq_mono (a := max 0 (rt y - s.sb (2 * q) % 4)) (b := rt y) (by omega) hlo
  have s2 := sq_mono (a := rtUp y) (b := rtUp y + s.sb (2 * q + 1) % 4) (by omega) (by omega)
  exact ⟨by omega, by omega, by omega, by omega, by omega⟩
theorem skyTru_ok {s : TSky} {lg : Nat → Int} (hs : SkyOk s) (hl : LegOk lg) : NOk (skyTru s lg) := by
  have hx := skyX_range s hl
  refine sky_ok (sp := (skyTru s lg).sp) hs (by simp [skyTru]) fun i hi => ?_
  have hi' : i < 1 + 2 * skyK s := by simpa [skyTru] using hi
  obtain ⟨e1, e2⟩ := map_los (fun q => truS s q ((skyX s lg).getD q 0)) hi'
  obtain ⟨a, b, c, _⟩ := truS_ok hs i (hx i).1 (hx i).2
  exact ⟨by rw [show los (skyTru s lg).sp i = _ from e1]; exact a, by rw [show los (skyTru s lg).sp i = _ from e1, show his (skyTru s lg).sp i = _ from e2]; exact b, by rw [show his (skyTru s lg).sp i = _ from e2]; exact c⟩
theorem spA_sqs {sp : List Sp} {q : Int} (h0 : 0 ≤ q) (h1 : q < sp.length) : spA (sqs sp) q = (los sp q.toNat * los sp q.toNat, his sp q.toNat * his sp q.toNat) := by
  have hq : q.toNat < sp.length := by omega
  unfold spA sqs
  rw [List.getD_eq_getElem?_getD, List.getElem?_map, List.getElem?_eq_getElem hq, span_eq hq]
  rfl
/-- WHAT truth MAKES IS TRUE. -/
theorem skyTru_true {s : TSky} {lg : Nat → Int} (hs : SkyOk s) (hl : LegOk lg) : Tru (skyTru s lg).ts (sqs (skyTru s lg).sp) (xF (skyX s lg)) := by
  have hx := skyX_range s hl
  have hN : (skyTru s lg).sp.length = 1 + 2 * skyK s := by simp [skyTru]
  refine ⟨fun q h0 h1 => ?_, fun t ht => ?_⟩
  · rw [sqs_len] at h1
    have hi' : q.toNat < 1 + 2 * skyK s := by omega
    obtain ⟨e1, e2⟩ := map_los (fun q => truS s q ((skyX s lg).getD q 0)) hi'
    obtain ⟨_, _, _, a, b⟩ := truS_ok hs q.toNat (hx q.toNat).1 (hx q.toNat).2
    rw [spA_sqs h0 h1, show los (skyTru s lg).sp q.toNat = _ from e1, show his (skyTru s lg).sp q.toNat = _ from e2]
    exact ⟨a, b⟩
  · exact tXs_holds (fun i => (hs.lk i).1) lg _ (skyK s) (by simp) t ht

end Go.Proofs.Ytlbhnicengolfaa

/-! ## SkyO: Openers of arguments: a sky by numbers, legs, bytes. -/
namespace Go.Proofs.Ytlbhnicengolfaa
open Go.RowKit Go.WideShapes Go.ChangeShapes Go.Deep
set_option linter.unusedVariables false

/-- The cells of an array of integers of one kind. -/
theorem arr_cells {H : Type} {enc : TypeId × Value → H} {P : Program} {base n fuel : Nat} {sp : Nat → Bool} {held : Bool} {w : World} {t e : TypeId} {k : IntKind} {cs : List Value} {x : DataW H × List MemPlace}
    (ht : P.underlying t = some (.array n e)) (he : P.underlying e = some (.int k)) (hce : P.cellsOf e = 1) (hC : P.cellsOf t = n) (h : DataW.trod enc P w base sp held fuel t cs = some x) :
    cs.length = n ∧ ∀ i, i < n → ∃ y : Int, cs[i]? = some (.int k y) ∧ (Lit.int k y).wf = true := by
  obtain ⟨ys, m, _, _, hl, hlen, hat⟩ := DataW.trod_array ht h
  rw [hC] at hl
  refine ⟨hl, fun i hi => ?_⟩
  have h1 := hat i hi
  rw [hce, Nat.mul_one, List.drop_eq_getElem_cons (by omega), List.take_succ_cons, List.take_zero] at h1
  obtain ⟨y, hy⟩ : ∃ y, ys[i]? = some y := ⟨_, List.getElem?_eq_getElem (by omega)⟩
  rw [hy] at h1
  obtain ⟨z, hz, _, hw⟩ := DataW.trod_int he h1
  exact ⟨z, by rw [List.getElem?_eq_getElem (by omega)]; simpa using hz, hw⟩
/-- The cells of an array of such arrays. -/
theorem arr2_cells {H : Type} {enc : TypeId × Value → H} {P : Program} {base n m fuel : Nat} {sp : Nat → Bool} {held : Bool} {w : World} {t e f : TypeId} {k : IntKind} {cs : List Value} {x : DataW H × List MemPlace}
    (ht : P.underlying t = some (.array n e)) (he : P.underlying e = some (.array m f)) (hf : P.underlying f = some (.int k)) (hcf : P.cellsOf f = 1) (hce : P.cellsOf e = m) (hC : P.cellsOf t = n * m) (h : DataW.trod enc P w base sp held fuel t cs = some x) :
    cs.length = n * m ∧ ∀ i j, i < n → j < m → ∃ y : Int, cs[i * m + j]? = some (.int k y) ∧ (Lit.int k y).wf = true := by
  obtain ⟨ys, g, _, _, hl, hlen, hat⟩ := DataW.trod_array ht h
  rw [hC] at hl
  refine ⟨hl, fun i j hi hj => ?_⟩
  have h1 := hat i hi
  rw [hce] at h1
  obtain ⟨y, hy⟩ : ∃ y, ys[i]? = some y := ⟨_, List.getElem?_eq_getElem (by omega)⟩
  rw [hy] at h1
  obtain ⟨hl2, h2⟩ := arr_cells he hf hcf hce h1
  obtain ⟨z, hz, hw⟩ := h2 j hj
  refine ⟨z, ?_, hw⟩
  rw [List.getElem?_take, if_pos hj, List.getElem?_drop] at hz
  exact hz
/-- A slice of arrays of integers of one kind. -/
theorem open_arrs {H : Type} {enc : TypeId × Value → H} {P : Program} {w : World} {base m : Nat} {spare : Nat → Bool} {held : Bool} {t e f : TypeId} {k : IntKind} {fuel : Nat} {cs : List Value} {x : DataW H × List MemPlace}
    (ht : P.underlying t = some (.slice e)) (he : P.underlying e = some (.array m f)) (hf : P.underlying f = some (.int k)) (hcf : P.cellsOf f = 1) (hce : P.cellsOf e = m) (hm : 0 < m)
    (h : DataW.trod enc P w base spare held fuel t cs = some x) :
    ∃ (a : Option Addr) (n cap : Nat) (g : Nat → Nat → Int), cs = [.slice a n cap] ∧ n ≤ cap ∧ cap ≤ 9223372036854775807 ∧ (a = none → n = 0) ∧ Row w w.heap.size a ((List.range (n * m)).map fun q => .int k (g (q / m) (q % m))) ∧
      ∀ i j, i < n → j < m → (Lit.int k (g i j)).wf = true := by
  rcases open_slice ht h with ⟨rfl, _⟩ | ⟨a, len, cap, m', n, D, Pl, hcs, hb, hl, hmx, hmm, hx, hi⟩
  · exact ⟨none, 0, 0, fun _ _ => 0, rfl, Nat.le_refl _, by decide, fun _ => rfl, .inl (by simp), fun i j h _ => by omega⟩
  · have hlm : len ≤ m' := by rw [hmm]; split <;> omega
    have key : ∀ i j, i < len → j < m → ∃ y : Int, w.cell? (a.add (i * m + j)) = some (.int k y) ∧ (Lit.int k y).wf = true := fun i j him hjf => by
      obtain ⟨cs', hc, ht'⟩ := hi i (by omega)
      rw [hce] at hc
      obtain ⟨hl2, h2⟩ := arr_cells he hf hcf hce ht'
      obtain ⟨_, hcl, hat⟩ := World.cells?_some hc
      obtain ⟨y, hy, hw⟩ := h2 j hjf
      exact ⟨y, by rw [← Go.Deep.add_add, hat j hjf]; exact hy, hw⟩
    refine ⟨some a, len, cap, fun i j => match w.cell? (a.add (i * m + j)) with | some (.int _ y) => y | _ => 0, hcs, hl, by unfold maxLen at hmx; exact hmx, fun h => (by cases h), ?_, ?_⟩
    · by_cases h0 : len = 0
      · subst h0
        exact .inl (by simp)
      · obtain ⟨y0, hy0, _⟩ := key 0 0 (by omega) hm
        have hsp : a.spot = none := by
          have hz : a.add (0 * m + 0) = a := by simp [Addr.add]
          rw [hz] at hy0
          exact spot_of_cell hy0
        obtain ⟨b, off, sp⟩ := a
        dsimp only at hsp
        subst hsp
        have hadd : ∀ i, (⟨b, off, none⟩ : Addr).add i = ⟨b, off + i, none⟩ := fun i => by
          unfold Addr.add
          split
          · rename_i hi; subst hi; rfl
          · rfl
        refine .inr ⟨b, off, rfl, ?_, fun q hq => ?_⟩
        · rw [hadd] at hy0
          exact World.block_lt_of_cell? w _ hy0
        · simp only [List.length_map, List.length_range] at hq
          have hq1 : q / m < len := (Nat.div_lt_iff_lt_mul hm).2 hq
          have hq2 : q % m < m := Nat.mod_lt _ hm
          obtain ⟨y, hy, _⟩ := key (q / m) (q % m) hq1 hq2
          have e : q / m * m + q % m = q := by rw [Nat.mul_comm]; exact Nat.div_add_mod q m
          have hg : ((List.range (len * m)).map fun q => Value.int k (match w.cell? ((⟨b, off, none⟩ : Addr).add (q / m * m + q % m)) with | some (.int _ y) => y | _ => 0)).getD q undef = .int k y := by
            rw [List.getD_eq_getElem?_getD, List.getElem?_map, List.getElem?_range hq]
            simp only [Option.map_some, Option.getD_some]
            rw [hy]
          refine Eq.trans ?_ (congrArg some hg.symm)
          rw [e, hadd] at hy
          exact hy
    · intro i j hi hj
      obtain ⟨y, hy, hw⟩ := key i j hi hj
      simp only [hy]
      exact hw

theorem wf_u8 {x : Int} (h : (Lit.int .u8 x).wf = true) : 0 ≤ x ∧ x ≤ 255 := by
  simp [Lit.wf, IntKind.min, IntKind.max, IntKind.signed, IntKind.bits] at h
  omega
theorem wf_u16 {x : Int} (h : (Lit.int .u16 x).wf = true) : 0 ≤ x ∧ x ≤ 65535 := by
  simp [Lit.wf, IntKind.min, IntKind.max, IntKind.signed, IntKind.bits] at h
  omega
theorem u8p_flat (n : Nat) (g : Nat → Nat → Int) : u8p ((List.range n).map fun i => (g i 0, g i 1)) = (List.range (n * 2)).map fun q => .int .u8 (g (q / 2) (q % 2)) := by
  have hl : (u8p ((List.range n).map fun i => (g i 0, g i 1))).length = ((List.range (n * 2)).map fun q => Value.int .u8 (g (q / 2) (q % 2))).length := by rw [u8p_length]; simp; omega
  refine List.ext_getElem hl fun q h1 h2 => ?_
  simp only [List.length_map, List.length_range] at h2
  have hk : q / 2 < ((List.range n).map fun i => (g i 0, g i 1)).length := by simp; omega
  obtain ⟨e1, e2⟩ := u8p_get ((List.range n).map fun i => (g i 0, g i 1)) (q / 2) hk
  have el : ((List.range n).map fun i => (g i 0, g i 1)).getD (q / 2) (0, 0) = (g (q / 2) 0, g (q / 2) 1) := by
    rw [List.getD_eq_getElem?_getD, List.getElem?_eq_getElem hk]
    simp
  rw [el] at e1 e2
  rw [List.getElem_map, List.getElem_range]
  rcases Nat.mod_two_eq_zero_or_one q with hm | hm
  · rw [show 2 * (q / 2) = q by omega, List.getD_eq_getElem?_getD, List.getElem?_eq_getElem h1] at e1
    rw [hm]
    exact e1
  · rw [show 2 * (q / 2) + 1 = q by omega, List.getD_eq_getElem?_getD, List.getElem?_eq_getElem h1] at e2
    rw [hm]
    exact e2

/-- The integer at a cell. -/
def intAt (l : List Value) (i : Nat) : Int := match l[i]? with | some (.int _ y) => y | _ => 0
/-- A sky, opened. -/
theorem open_sky {H : Type} {enc : TypeId × Value → H} {P : Program} {r : Reach} {b0 base : Nat} {sp : Nat → Bool} {held : Bool} {w : World} {t e u : TypeId} {f0 f1 : Field} {v : Value} {d : DataW H} {p : List MemPlace}
    (ht : P.underlying t = some (.struct #[f0, f1])) (hC : P.cellsOf t = 15) (o0 : f0.offset = 0) (o1 : f1.offset = 1)
    (h0 : P.underlying f0.type = some (.slice e)) (h1 : P.underlying f1.type = some (.array 7 e)) (he : P.underlying e = some (.array 2 u)) (hu : P.underlying u = some (.int .u8)) (hcu : P.cellsOf u = 1) (hce : P.cellsOf e = 2)
    (c0 : P.cellsOf f0.type = 1) (c1 : P.cellsOf f1.type = 7 * 2)
    (hv : Value.okWide P w r b0 t v) (h : DataW.Trod enc P w base sp held t v d p) :
    ∃ (s : TSky) (la : Option Addr) (ln lc : Nat), v = .agg (skyC la ln lc s) ∧ SkyOk s ∧ ln = s.lk.length ∧ ln ≤ lc ∧ lc ≤ 9223372036854775807 ∧ Row w w.heap.size la (u8p s.lk) := by
  simp only [Value.okWide, ht] at hv
  obtain ⟨cs, rfl, hsz, _⟩ := hv
  obtain ⟨fuel, hf⟩ := h
  have hcl : (Value.agg cs).cells.toList = cs.toList := by simp [Value.cells]
  rw [hcl] at hf
  obtain ⟨y0, y1, n, _, hl, q0, q1⟩ := trod_struct2 ht hf
  rw [o0, c0] at q0
  rw [o1, c1] at q1
  obtain ⟨a, len, cap, g, es, hlc, hcap, hnil, hrow, hwf⟩ := open_arrs h0 he hu hcu hce (by decide) q0
  obtain ⟨hl14, h14⟩ := arr2_cells h1 he hu hcu hce c1 q1
  have hsb : ∀ i, i < 14 → ∃ y : Int, cs.toList[1 + i]? = some (.int .u8 y) ∧ 0 ≤ y ∧ y ≤ 255 := fun i hi => by
    obtain ⟨y, hy, hw⟩ := h14 (i / 2) (i % 2) (by omega) (by omega)
    rw [show i / 2 * 2 + i % 2 = i by omega, List.getElem?_take, if_pos (by omega), List.getElem?_drop] at hy
    exact ⟨y, hy, wf_u8 hw⟩
  have hc0 : cs.toList[0]? = some (.slice a len cap) := by
    rw [List.drop_zero] at es
    have := congrArg (fun l => l[0]?) es
    simpa [List.getElem?_take] using this
  refine ⟨⟨(List.range len).map fun i => (g i 0, g i 1), fun i => if i < 14 then intAt cs.toList (1 + i) else 0⟩, a, len, cap, ?_, ⟨fun i => ?_, fun i => ?_⟩, by simp, hlc, hcap, by rw [u8p_flat]; exact hrow⟩
  · rw [hC] at hl
    have e : ∀ i, i < 15 → cs.toList[i]? = (skyC a len cap ⟨(List.range len).map fun i => (g i 0, g i 1), fun i => if i < 14 then intAt cs.toList (1 + i) else 0⟩)[i]? := fun i hi => by
      cases i with
      | zero => rw [hc0]; rfl
      | succ i =>
        obtain ⟨y, hy, _⟩ := hsb i (by omega)
        rw [show i + 1 = 1 + i by omega, skyC_get (by omega), hy]
        simp only [intAt, hy]
        rw [if_pos (by omega)]
    congr 1
    apply Array.ext'
    refine List.ext_getElem? fun i => ?_
    rw [Array.getElem?_toList (xs := skyC _ _ _ _)]
    by_cases hi : i < 15
    · exact e i hi
    · rw [List.getElem?_eq_none (by omega), Array.getElem?_eq_none (by show 15 ≤ i; omega)]
  · show 0 ≤ (((List.range len).map fun i => (g i 0, g i 1)).getD i (0, 0)).1 ∧ _
    rcases Nat.lt_or_ge i len with h | h
    · rw [List.getD_eq_getElem?_getD, List.getElem?_eq_getElem (by simpa using h)]
      simp only [List.getElem_map, List.getElem_range, Option.getD_some]
      have a0 := wf_u8 (hwf i 0 h (by decide))
      have a1 := wf_u8 (hwf i 1 h (by decide))
      omega
    · rw [List.getD_eq_getElem?_getD, List.getElem?_eq_none (by simpa using h)]
      simp
  · show 0 ≤ (if i < 14 then intAt cs.toList (1 + i) else 0) ∧ (if i < 14 then intAt cs.toList (1 + i) else 0) ≤ 255
    by_cases hi : i < 14
    · obtain ⟨y, hy, hb⟩ := hsb i hi
      simp only [intAt, hy]
      rw [if_pos hi]
      exact hb
    · simp [hi]

/-- Legs, opened. -/
theorem open_legs {H : Type} {enc : TypeId × Value → H} {P : Program} {r : Reach} {b0 base : Nat} {sp : Nat → Bool} {held : Bool} {w : World} {t u : TypeId} {v : Value} {d : DataW H} {p : List MemPlace}
    (ht : P.underlying t = some (.array 7 u)) (hu : P.underlying u = some (.int .u16)) (hcu : P.cellsOf u = 1) (hC : P.cellsOf t = 7)
    (hv : Value.okWide P w r b0 t v) (h : DataW.Trod enc P w base sp held t v d p) : ∃ lg : Nat → Int, v = .agg (legC lg) ∧ LegOk lg := by
  simp only [Value.okWide, ht] at hv
  obtain ⟨cs, rfl, hsz, _⟩ := hv
  obtain ⟨fuel, hf⟩ := h
  have hcl : (Value.agg cs).cells.toList = cs.toList := by simp [Value.cells]
  rw [hcl] at hf
  obtain ⟨hl, h7⟩ := arr_cells ht hu hcu hC hf
  have hb : ∀ i, 0 ≤ (if i < 7 then intAt cs.toList i else 0) ∧ (if i < 7 then intAt cs.toList i else 0) ≤ 65535 := fun i => by
    by_cases hi : i < 7
    · obtain ⟨y, hy, hw⟩ := h7 i hi
      simp only [intAt, hy]
      rw [if_pos hi]
      exact wf_u16 hw
    · simp [hi]
  refine ⟨fun i => if i < 7 then intAt cs.toList i else 0, ?_, ⟨fun i => (hb i).1, fun i => (hb i).2⟩⟩
  congr 1
  apply Array.ext'
  refine List.ext_getElem? fun i => ?_
  rw [Array.getElem?_toList (xs := legC _)]
  by_cases hi : i < 7
  · obtain ⟨y, hy, _⟩ := h7 i hi
    rw [legC_get hi, hy]
    simp only [intAt, hy]
    rw [if_pos hi]
  · rw [List.getElem?_eq_none (by omega), Array.getElem?_eq_none (by show 7 ≤ i; omega)]

theorem open_u8 {H : Type} {enc : TypeId × Value → H} {P : Program} {base b0 : Nat} {r : Reach} {sp : Nat → Bool} {held : Bool} {w : World} {t : TypeId} {v : Value} {d : DataW H} {p : List MemPlace}
    (ht : P.underlying t = some (.int .u8)) (hv : Value.okWide P w r b0 t v) (h : DataW.Trod enc P w base sp held t v d p) : ∃ x : Int, v = .int .u8 x ∧ 0 ≤ x ∧ x ≤ 255 := by
  obtain ⟨x, rfl⟩ := okWide_int ht hv
  obtain ⟨n, hn⟩ := h
  obtain ⟨k, hk, _, hw⟩ := DataW.trod_int ht hn
  have hk' : x = k := by simpa [Value.cells] using hk
  subst hk'
  exact ⟨x, rfl, wf_u8 hw⟩
theorem open_bool {H : Type} {enc : TypeId × Value → H} {P : Program} {base b0 : Nat} {r : Reach} {sp : Nat → Bool} {held : Bool} {w : World} {t : TypeId} {v : Value} {d : DataW H} {p : List MemPlace}
    (ht : P.underlying t = some .bool) (hv : Value.okWide P w r b0 t v) (h : DataW.Trod enc P w base sp held t v d p) : ∃ b : Bool, v = .bool b := by
  exact okWide_bool ht hv

end Go.Proofs.Ytlbhnicengolfaa
