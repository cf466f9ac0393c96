/-
  PeriodMore: the walk.
-/
import Derived.Test.YtjgebepeghgmcaaPlain10
import Derived.Test.YtjgebepeghgmcaaRegs
import Derived.ArgAppend
import Derived.StillTailTactics
import Derived.Laws.OwnMore
namespace Go.Proofs.Ytjgebepeghgmcaa
open Go.RowKit Go.Shelf
set_option linter.unusedVariables false
set_option linter.unusedSimpArgs false

def gNil (w : World) (v : Value) : Prop := ∃ b, v = .slice (some ⟨b, 0, none⟩) 0 0
theorem gNil_below {w w' : World} {v : Value} (h : gNil w v) (hb : Below w.heap.size w w') : gNil w' v := h
def gOwn (x : WNum) (B : Nat) (w : World) (v : Value) : Prop := w.ownsRow B 23 2 v x.n (spans (x.ps x.n))
theorem gOwn_below {x : WNum} {B : Nat} {w w' : World} {v : Value} (h : gOwn x B w v) (hb : Below w.heap.size w w') : gOwn x B w' v := own_stay h fun k hk => hb.block k (h.lt k hk).2
def gOwnE (x : WNum) (B : Nat) (w : World) (v : Value) : Prop := ∃ g c, v = .slice (some ⟨g, 0, none⟩) x.n c ∧ gOwn x B w (.slice (some ⟨g, 0, none⟩) x.n c)
theorem gOwnE_below {x : WNum} {B : Nat} {w w' : World} {v : Value} (h : gOwnE x B w v) (hb : Below w.heap.size w w') : gOwnE x B w' v := by
  obtain ⟨g, c, e, hu⟩ := h
  exact ⟨g, c, e, gOwn_below hu hb⟩
def gAgg (x : WNum) (t : Nat → Int) (B : Nat) (w : World) (v : Value) : Prop := ∃ g c, v = .agg #[.int .i64 (x.lo - t 0 % 2), .int .i64 (x.hi + t 0 / 64), .slice (some ⟨g, 0, none⟩) x.n c] ∧ gOwn x B w (.slice (some ⟨g, 0, none⟩) x.n c)
theorem gAgg_below {x : WNum} {t : Nat → Int} {B : Nat} {w w' : World} {v : Value} (h : gAgg x t B w v) (hb : Below w.heap.size w w') : gAgg x t B w' v := by
  obtain ⟨g, c, e, hu⟩ := h
  exact ⟨g, c, e, gOwn_below hu hb⟩
def gBox (B : Nat) (w : World) (v : Value) : Prop := ∃ b, v = .pointer (some ⟨b, 0, none⟩) ∧ B ≤ b ∧ Blk w b #[.int .i64 0, .int .i64 0, .slice none 0 0] 26
theorem gBox_below {B : Nat} {w w' : World} {v : Value} (h : gBox B w v) (hb : Below w.heap.size w w') : gBox B w' v := by
  obtain ⟨b, e, h1, h2⟩ := h
  exact ⟨b, e, h1, h2.kept hb⟩
theorem below_of_grown {w w' : World} (h : w.grownBy w' none) : Below w.heap.size w w' := ⟨h.os, h.tape, h.output, h.size, fun k hk => h.block k hk (by simp)⟩

/-- What lies in memory while the ends of the wider log are moved. -/
structure MoI (x : WNum) (t : Nat → Int) (w : World) (p3 p5 p6 b0 off0 cap g c : Nat) (k : Nat) (W : World) : Prop where
  be : Below w.heap.size w W
  b3 : Blk W p3 #[.int .u8 (t 0), .int .u8 (t 1), .int .u8 (t 2), .int .u8 (t 3)] 70
  b5 : Blk W p5 #[.int .i64 x.lo, .int .i64 x.hi, .slice (some ⟨b0, off0, none⟩) x.n cap] 26
  b6 : Blk W p6 #[.int .i64 (x.lo - t 0 % 2), .int .i64 (x.hi + t 0 / 64), .slice (some ⟨g, 0, none⟩) x.n c] 26
  row : Row W p5 (some ⟨b0, off0, none⟩) (spans x.log.ps)
  own : W.ownsRow (p5 + 1) 23 2 (.slice (some ⟨g, 0, none⟩) x.n c) x.n (spans (morePs x t k))
  g5 : p5 < g
  g3 : p3 < p5
  g6 : p6 ≠ g
  gw : w.heap.size ≤ p3
theorem MoI.kept {x : WNum} {t : Nat → Int} {w : World} {p3 p5 p6 b0 off0 cap g c k : Nat} {W W' : World} (h : MoI x t w p3 p5 p6 b0 off0 cap g c k W) (hb : Below W.heap.size W W') : MoI x t w p3 p5 p6 b0 off0 cap g c k W' :=
  ⟨h.be.trans (hb.mono h.be.size), h.b3.kept hb, h.b5.kept hb, h.b6.kept hb, h.row.below (hb.mono (Nat.le_of_lt h.b5.lt)) (Nat.le_refl _), own_stay h.own (fun k hk => hb.block k (h.own.lt k hk).2), h.g5, h.g3, h.g6, h.gw⟩
theorem MoI.at_ {x : WNum} {t : Nat → Int} {w : World} {p3 p5 p6 b0 off0 cap g c k : Nat} {W : World} (h : MoI x t w p3 p5 p6 b0 off0 cap g c k W) {i : Nat} (hi : i < x.n) :
    W.cell? ⟨g, i * 2, none⟩ = some (.int .i64 (if i < k then moreP x t i else x.span i).1) ∧ W.cell? ⟨g, i * 2 + 1, none⟩ = some (.int .i64 (if i < k then moreP x t i else x.span i).2) ∧ W.frozen? ⟨g, i * 2 + 1, none⟩ = false := by
  have hl := more_len x t k
  obtain ⟨e1, e2⟩ := spans_get (morePs x t k) i (by omega)
  have e := more_at x t k i hi
  have hs := spans_length (morePs x t k)
  have f1 : los (morePs x t k) i = (if i < k then moreP x t i else x.span i).1 := congrArg Prod.fst e
  have f2 : his (morePs x t k) i = (if i < k then moreP x t i else x.span i).2 := congrArg Prod.snd e
  rw [f1] at e1
  rw [f2] at e2
  have c1 := h.own.cellAt (i * 2) (by omega)
  have c2 := h.own.cellAt (i * 2 + 1) (by omega)
  rw [List.getD_eq_getElem?_getD, Nat.mul_comm, List.getElem?_eq_getElem (by omega)] at e1
  rw [List.getD_eq_getElem?_getD, Nat.mul_comm, List.getElem?_eq_getElem (by omega)] at e2
  rw [List.getElem?_eq_getElem (by omega)] at c1 c2
  refine ⟨c1.trans ?_, c2.trans ?_, h.own.frozenAt _⟩
  · rw [← e1]; rfl
  · rw [← e2]; rfl
theorem spans_set : ∀ (ps : List (Int × Int)) (k : Nat) (v : Int), k < ps.length → (spans ps).set (k * 2 + 1) (.int .i64 v) = spans (ps.set k (los ps k, v))
  | [], k, v, h => by simp at h
  | p :: ps, 0, v, h => by simp [spans, los]
  | p :: ps, k + 1, v, h => by
    have := spans_set ps k v (by simpa using h)
    rw [show (k + 1) * 2 + 1 = (k * 2 + 1) + 1 + 1 by omega]
    simp only [spans, List.set_cons_succ, los, List.getD_cons_succ] at this ⊢
    rw [this]
theorem more_set (x : WNum) (t : Nat → Int) (k : Nat) (hk : k < x.n) (v : Int) (hv : v = (moreP x t k).2) : (morePs x t k).set k (los (morePs x t k) k, v) = morePs x t (k + 1) := by
  have e := more_at x t k k hk
  rw [if_neg (Nat.lt_irrefl k)] at e
  have f1 : los (morePs x t k) k = (x.span k).1 := congrArg Prod.fst e
  rw [f1, hv]
  apply List.ext_getElem
  · simp [morePs]
  · intro i h1 h2
    have hi : i < x.n := by simpa [morePs] using h2
    simp only [List.getElem_set, morePs, List.getElem_map, List.getElem_range]
    by_cases hik : k = i
    · subst hik
      rw [if_pos rfl, if_pos (Nat.lt_succ_self k)]
      rfl
    · rw [if_neg hik]
      by_cases hlt : i < k
      · rw [if_pos hlt, if_pos (by omega)]
      · rw [if_neg hlt, if_neg (by omega)]
theorem MoI.next {x : WNum} {t : Nat → Int} {w : World} {p3 p5 p6 b0 off0 cap g c k : Nat} {W : World} (h : MoI x t w p3 p5 p6 b0 off0 cap g c k W) (hk : k < x.n) {v : Int} (hv : v = (moreP x t k).2) :
    MoI x t w p3 p5 p6 b0 off0 cap g c (k + 1) (W.setCell ⟨g, k * 2 + 1, none⟩ (.int .i64 v)) := by
  have hg := h.g5
  have hg3 := h.g3
  have hgw := h.gw
  refine ⟨?_, h.b3.other (p := ⟨g, k * 2 + 1, none⟩) (by show p3 ≠ g; omega) _, h.b5.other (p := ⟨g, k * 2 + 1, none⟩) (by show p5 ≠ g; omega) _, h.b6.other (p := ⟨g, k * 2 + 1, none⟩) h.g6 _, ?_, ?_, h.g5, h.g3, h.g6, h.gw⟩
  · exact h.be.setCell (p := ⟨g, k * 2 + 1, none⟩) (by show w.heap.size ≤ g; omega) _
  · exact h.row.below ((Below.refl _ _).setCell (p := ⟨g, k * 2 + 1, none⟩) (by show p5 ≤ g; omega) _) (Nat.le_refl _)
  · have := (h.own.stored (k * 2 + 1) (.int .i64 v)).1
    rw [spans_set _ _ _ (by rw [more_len]; exact hk), more_set x t k hk v hv] at this
    exact this
/-- Nothing is moved. -/
theorem MoI.skip {x : WNum} {t : Nat → Int} {w : World} {p3 p5 p6 b0 off0 cap g c k : Nat} {W : World} (h : MoI x t w p3 p5 p6 b0 off0 cap g c k W) (hk : k < x.n) (hd : moreD x t k = 0) : MoI x t w p3 p5 p6 b0 off0 cap g c (k + 1) W := by
  have e : morePs x t k = morePs x t (k + 1) := by
    unfold morePs
    refine List.map_congr_left fun i hi => ?_
    by_cases hik : i = k
    · subst hik
      rw [if_neg (Nat.lt_irrefl i), if_pos (Nat.lt_succ_self i)]
      unfold moreP
      rw [hd, Int.add_zero]
    · by_cases hlt : i < k
      · rw [if_pos hlt, if_pos (by omega)]
      · rw [if_neg hlt, if_neg (by omega)]
  exact ⟨h.be, h.b3, h.b5, h.b6, h.row, e ▸ h.own, h.g5, h.g3, h.g6, h.gw⟩

theorem red_small {l : PLog} {c : List Int} (hl : LOk l) (hc : COk l c) : (Small 2000000000 (redR (lowEnd l c)).1 ∧ 1 ≤ (redR (lowEnd l c)).2 ∧ Small 2000000000 (redR (lowEnd l c)).2) ∧ Small 2000000000 (redR (highEnd l c)).1 ∧ 1 ≤ (redR (highEnd l c)).2 ∧ Small 2000000000 (redR (highEnd l c)).2 := by
  have E := ends_pos hl hc
  have S := ends_small hl hc
  unfold Small at *
  obtain ⟨_, _, _, _, a1, a2, a3, a4⟩ := red_is E.2.1 (by omega)
  obtain ⟨_, _, _, _, b1, b2, b3, b4⟩ := red_is E.2.2.2 (by omega)
  omega
/-- What Period returns for the log and the wider one. -/
structure MoreP (x : WNum) (o : PLog) (c d : List Int) (A B P Q : Int × Int) : Prop where
  pl : periodR x.log c = (A, B, 0)
  po : periodR o d = (P, Q, 0)
  a : 1 ≤ A.2 ∧ Small 2000000000 A.1 ∧ Small 2000000000 A.2
  b : 1 ≤ B.2 ∧ Small 2000000000 B.1 ∧ Small 2000000000 B.2
  p : 1 ≤ P.2 ∧ Small 2000000000 P.1 ∧ Small 2000000000 P.2
  q : 1 ≤ Q.2 ∧ Small 2000000000 Q.1 ∧ Small 2000000000 Q.2
  lo : lessR A P = false
  hi : lessR Q B = false
theorem wide_periods {x : WNum} (hx : x.Ok) {o : PLog} {c d : List Int} (hc : c ∈ allC x.log) (ho : LOk o) (hd : COk o d) (hdl : d.length + 1 = o.ps.length) (W : Wd x.log o c d) : ∃ A B P Q, MoreP x o c d A B P Q := by
  have hl := x.lok hx
  obtain ⟨h1, h2, h3, _⟩ := watch_ends hx hc
  have hpl : x.log.ps.length = x.n := x.ps_len _
  have hpo := W.possible hl ho h2 hd h3
  obtain ⟨e1, e2⟩ := W.ends hl ho h2 hd
  have s1 := red_small hl h2
  have s2 := red_small ho hd
  have E1 := ends_pos hl h2
  have E2 := ends_pos ho hd
  exact ⟨_, _, _, _, period_yes (countedL_of hl h2 (by omega)) h3, period_yes (countedL_of ho hd hdl) hpo, ⟨s1.1.2.1, s1.1.1, s1.1.2.2⟩, ⟨s1.2.2.1, s1.2.1, s1.2.2.2⟩, ⟨s2.1.2.1, s2.1.1, s2.1.2.2⟩, ⟨s2.2.2.1, s2.2.1, s2.2.2.2⟩,
    less_red ⟨E2.2.1, by omega⟩ ⟨E1.2.1, by omega⟩ e1, less_red ⟨E1.2.2.2, by omega⟩ ⟨E2.2.2.2, by omega⟩ e2⟩
theorem spans_take : ∀ (ps : List (Int × Int)) (m : Nat), (spans ps).take (2 * m) = spans (ps.take m)
  | ps, 0 => by simp [spans]
  | [], m + 1 => by simp [spans]
  | p :: ps, m + 1 => by
    rw [show 2 * (m + 1) = 2 * m + 1 + 1 by omega]
    simp [spans, spans_take ps m]
theorem Row.begin {w : World} {B : Nat} {a : Option Addr} {vs : List Value} (h : Row w B a vs) (k : Nat) : Row w B a (vs.take k) := by
  have := h.cut 0 k
  rw [List.drop_zero, Nat.sub_zero] at this
  cases a with
  | none => exact this
  | some ad => simpa [Addr.add] using this
/-- The three logs of PeriodMore. -/
structure MoJ (x : WNum) (t : Nat → Int) (w : World) (m p5 p6 p12 : Nat) (a5 a6 : Option Addr) (cap c : Nat) (W : World) : Prop where
  be : Below w.heap.size w W
  b5 : Blk W p5 #[.int .i64 x.lo, .int .i64 x.hi, .slice a5 x.n cap] 26
  b6 : Blk W p6 #[.int .i64 (x.lo - t 0 % 2), .int .i64 (x.hi + t 0 / 64), .slice a6 x.n c] 26
  b12 : Blk W p12 #[.int .i64 x.lo, .int .i64 x.hi, .slice a5 m cap] 26
  r5 : Row W W.heap.size a5 (spans x.log.ps)
  r6 : Row W W.heap.size a6 (spans (moreL x t).ps)
theorem MoJ.kept {x : WNum} {t : Nat → Int} {w : World} {m p5 p6 p12 : Nat} {a5 a6 : Option Addr} {cap c : Nat} {W W' : World} (h : MoJ x t w m p5 p6 p12 a5 a6 cap c W) (hb : Below W.heap.size W W') : MoJ x t w m p5 p6 p12 a5 a6 cap c W' :=
  ⟨h.be.trans (hb.mono h.be.size), h.b5.kept hb, h.b6.kept hb, h.b12.kept hb, (h.r5.below hb (Nat.le_refl _)).mono hb.size, (h.r6.below hb (Nat.le_refl _)).mono hb.size⟩

theorem period_is {l : PLog} {cs : List Int} {A1 A2 B1 B2 : Int} (he : periodR l cs = ((A1, A2), (B1, B2), 0)) (a ca : Option Addr) (n cap m ccap : Nat) (w : World) (hn : n = l.ps.length) (hm : m = cs.length) (hn1 : n ≤ 1000000000) (hm1 : m ≤ 1000000000) (hmc : m ≤ ccap)
    (hp : Row w w.heap.size a (spans l.ps)) (hc : Row w w.heap.size ca (ints cs)) :
    Calls Try.prog 29 #[.agg #[.int .i64 l.lo, .int .i64 l.hi, .slice a n cap], .slice ca m ccap] w fun e w' =>
      e = .returned (.tuple #[.agg #[.int .i64 A1, .int .i64 A2], .agg #[.int .i64 B1, .int .i64 B2], .int .i64 0]) ∧ Below w.heap.size w w' := by
  have h := periodF_any l cs a ca n cap m ccap w hn hm hn1 hm1 hmc hp hc
  rw [he] at h
  exact h


def mGood (x : WNum) (t : Nat → Int) (p3 p5 B cap : Nat) (ad : Option Addr) : Nat → World → Value → Prop
  | 0, _, v => v = .pointer (some ⟨p5, 0, none⟩)
  | 1, _, v => v = .pointer (some ⟨p5, 0, none⟩)
  | 2, _, v => v = .int .i64 x.lo
  | 3, _, v => v = .pointer (some ⟨p3, 0, none⟩)
  | 4, _, v => v = .int .u8 (t 0)
  | 5, _, v => v = .int .i64 (t 0)
  | 6, _, v => v = .int .i64 (t 0 % 2)
  | 7, _, v => v = .int .i64 (x.lo - t 0 % 2)
  | 8, _, v => v = .pointer (some ⟨p5, 0, none⟩)
  | 9, _, v => v = .pointer (some ⟨p5, 1, none⟩)
  | 10, _, v => v = .int .i64 x.hi
  | 11, _, v => v = .pointer (some ⟨p3, 0, none⟩)
  | 12, _, v => v = .int .u8 (t 0)
  | 13, _, v => v = .int .i64 (t 0)
  | 14, _, v => v = .int .i64 (t 0 / 64)
  | 15, _, v => v = .int .i64 (x.hi + t 0 / 64)
  | 16, _, v => v = .agg #[.int .i64 (x.lo - t 0 % 2), .int .i64 (x.hi + t 0 / 64)]
  | 17, w, v => gNil w v
  | 18, _, v => v = .pointer (some ⟨p5, 2, none⟩)
  | 19, _, v => v = .slice ad x.n cap
  | 20, w, v => (gOwnE x B) w v
  | 21, w, v => (gAgg x t B) w v
  | 22, w, v => (gBox B) w v
  | _, _, v => v = .bool true
theorem mGood_below {x : WNum} {t : Nat → Int} {p3 p5 B cap : Nat} {ad : Option Addr} (i : Nat) (w w' : World) (v : Value) (h : (mGood x t p3 p5 B cap ad) i w v) (hb : Below w.heap.size w w') : (mGood x t p3 p5 B cap ad) i w' v := by
  unfold mGood at h
  split at h <;> first | exact gNil_below h hb | exact gOwnE_below h hb | exact gAgg_below h hb | exact gBox_below h hb | exact h | (unfold mGood; split <;> first | exact h | (exfalso; simp_all))

attribute [local go_sem] grows growAt growUpon in
set_option maxRecDepth 100000 in
set_option maxHeartbeats 4000000 in
theorem pmore_any (x : WNum) (t : Nat → Int) (w : World) (hx : x.Ok) (ht : TOk t) :
    Calls Try.prog 8 #[x.val, .agg #[.int .u8 (t 0), .int .u8 (t 1), .int .u8 (t 2), .int .u8 (t 3)]] w fun e w' => e = .returned (.bool true) ∧ Below w.heap.size w w' := by
  have HX := hide hx
  have HT := hide ht
  have t0 := ht.t 0
  have hmade := fun W => made_any x W hx
  have HV : Hid (x.val = .agg #[.int .u8 x.p0, .int .u8 x.p1, .int .u8 (x.t 0), .int .u8 (x.t 1), .int .u8 (x.t 2), .int .u8 (x.t 3), .int .u8 (x.t 4), .int .u8 (x.t 5), .bool x.two]) := hide rfl
  simp only [HV.out] at hmade
  have HMADE := hide hmade
  have hpl : x.n = x.log.ps.length := (x.ps_len _).symm
  have HPL := hide hpl
  have hn3 : 2 ≤ x.n ∧ x.n ≤ 3 := by have := x.n_is; omega
  have hlh := x.lo_hi HX.out
  have HCR := hide (watch_countsR hx)
  rw [HV.out]
  clear hx hmade HV hpl ht
  go_enter Try.func8, Try.ntmps8
  go_wp2_with fail
  generalize hW : World.alloc (World.alloc w _) _ = V
  have hB : Below w.heap.size w V := by rw [← hW]; exact ((Below.refl _ _).alloc (Nat.le_refl _) _).alloc (by simp) _
  have k3 : Blk V (w.heap.size + 1) #[.int .u8 (t 0), .int .u8 (t 1), .int .u8 (t 2), .int .u8 (t 3)] 70 := by rw [← hW]; exact (by simpa using Blk.new (World.alloc w _) _ _)
  clear hW
  obtain ⟨p3, hp3⟩ : ∃ p3, p3 = w.heap.size + 1 := ⟨_, rfl⟩
  rw [← hp3] at k3 ⊢
  have HP3 : Hid (w.heap.size ≤ p3) := hide (by omega)
  clear hp3
  refine (HMADE.out _).mono ?_
  rintro e W1 ⟨ad, cap, rfl, hcap, hr1, hb1⟩
  obtain ⟨b0, off0, e0, -, -⟩ := hr1.span (by rw [← HPL.out]; omega)
  cases e0
  have hB1 := hB.trans (hb1.mono hB.size)
  have q3 := k3.kept hb1
  clear hB hb1 HMADE V k3
  go_wp2_with fail
  have S0 := (Blk.new W1 #[.int .i64 x.lo, .int .i64 x.hi, .slice (some ⟨b0, off0, none⟩) x.n cap] 26)
  have hbn : Below W1.heap.size W1 (W1.alloc (.cells #[.int .i64 x.lo, .int .i64 x.hi, .slice (some ⟨b0, off0, none⟩) x.n cap] 26)) := (Below.refl _ _).alloc (Nat.le_refl _) _
  have hr2 := hr1.below hbn (Nat.le_refl _)
  have hB2 := hB1.trans (hbn.mono hB1.size)
  have k3 := q3.kept hbn
  have z3 : p3 < W1.heap.size := q3.lt
  clear hr1 hB1 q3 hbn
  generalize World.alloc W1 _ = V1 at *
  generalize W1.heap.size = p5 at *
  have z5 : p5 < V1.heap.size := S0.lt
  have hX := @Ext.cell V1
  have HC : Hid (∀ w', Below V1.heap.size V1 w' → Blk w' p5 #[.int .i64 x.lo, .int .i64 x.hi, .slice (some ⟨b0, off0, none⟩) x.n cap] 26 ∧ Blk w' p3 #[.int .u8 (t 0), .int .u8 (t 1), .int .u8 (t 2), .int .u8 (t 3)] 70 ∧ Row w' p5 (some ⟨b0, off0, none⟩) (spans x.log.ps)) := hide fun w' hb => ⟨S0.kept hb, k3.kept hb, hr2.below (hb.mono (Nat.le_of_lt z5)) (Nat.le_refl _)⟩
  have i1 : IntKind.i64.wrap (t 0) = t 0 := IntWalk.i64_in _ (by omega)
  have i2 : (t 0).tmod 2 = t 0 % 2 := Int.tmod_eq_emod_of_nonneg (by omega)
  have i3 : (t 0).tdiv 64 = t 0 / 64 := Int.tdiv_eq_ediv_of_nonneg (by omega)
  have i4 : IntKind.i64.wrap (t 0 % 2) = t 0 % 2 := IntWalk.i64_in _ (by omega)
  have i5 : IntKind.i64.wrap (t 0 / 64) = t 0 / 64 := IntWalk.i64_in _ (by omega)
  have i6 : IntKind.i64.wrap (x.lo - t 0 % 2) = x.lo - t 0 % 2 := IntWalk.i64_in _ (by omega)
  have i7 : IntKind.i64.wrap (x.hi + t 0 / 64) = x.hi + t 0 / 64 := IntWalk.i64_in _ (by omega)
  obtain ⟨i0, hi, hz0, hz1, hz2⟩ := info_span
  have HI := hide hi
  clear hi
  refine wp_region_monoF V1 _ 23 (mGood x t p3 p5 V1.heap.size cap (some ⟨b0, off0, none⟩)) (n := 242) (by kernel_rfl) (by decide +kernel) rfl mGood_below ?steps ?_
  case steps =>
      refine ⟨?_, ?_, ?_, ?_, ?_, ?_, ?_, ?_, ?_, ?_, ?_, ?_, ?_, ?_, ?_, ?_, ?_, ?_, ?_, ?_, ?_, ?_, ?_, trivial⟩
      · intro a w' h
        have e5 : a.tmps.getD 5 undef = .pointer (some ⟨p5, 0, none⟩) := h.old 5 rfl
        refine ⟨wanted_none rfl, ?_⟩
        simp at e5
        clear h
        go_simp
        exact ⟨Below.refl _ _, rfl⟩
      · intro a w' h
        have e29 : a.tmps.getD 29 undef = .pointer (some ⟨p5, 0, none⟩) := h.val 0 29 rfl rfl
        refine ⟨wanted_none rfl, ?_⟩
        simp at e29
        clear h
        go_simp
        exact ⟨Below.refl _ _, rfl⟩
      · intro a w' h
        have e30 : a.tmps.getD 30 undef = .pointer (some ⟨p5, 0, none⟩) := h.val 1 30 rfl rfl
        refine ⟨wanted_none rfl, ?_⟩
        simp at e30
        have q := (HC.out w' h.be).1.three
        clear h
        go_simp
        exact ⟨Below.refl _ _, rfl⟩
      · intro a w' h
        have e3 : a.tmps.getD 3 undef = .pointer (some ⟨p3, 0, none⟩) := h.old 3 rfl
        refine ⟨wanted_none rfl, ?_⟩
        simp at e3
        clear h
        go_simp
        exact ⟨Below.refl _ _, rfl⟩
      · intro a w' h
        have e32 : a.tmps.getD 32 undef = .pointer (some ⟨p3, 0, none⟩) := h.val 3 32 rfl rfl
        refine ⟨wanted_none rfl, ?_⟩
        simp at e32
        have q := (HC.out w' h.be).2.1.cell 0
        simp at q
        clear h
        go_simp
        exact ⟨Below.refl _ _, rfl⟩
      · intro a w' h
        have e33 : a.tmps.getD 33 undef = .int .u8 (t 0) := h.val 4 33 rfl rfl
        refine ⟨wanted_none rfl, ?_⟩
        simp at e33
        clear h
        go_simp
        exact ⟨Below.refl _ _, rfl⟩
      · intro a w' h
        have e34 : a.tmps.getD 34 undef = .int .i64 (t 0) := h.val 5 34 rfl rfl
        refine ⟨wanted_none rfl, ?_⟩
        simp at e34
        clear h
        go_simp
        exact ⟨Below.refl _ _, rfl⟩
      · intro a w' h
        have e31 : a.tmps.getD 31 undef = .int .i64 x.lo := h.val 2 31 rfl rfl
        have e35 : a.tmps.getD 35 undef = .int .i64 (t 0 % 2) := h.val 6 35 rfl rfl
        refine ⟨wanted_none rfl, ?_⟩
        simp at e31 e35
        clear h
        go_simp
        exact ⟨Below.refl _ _, rfl⟩
      · intro a w' h
        have e5 : a.tmps.getD 5 undef = .pointer (some ⟨p5, 0, none⟩) := h.old 5 rfl
        refine ⟨wanted_none rfl, ?_⟩
        simp at e5
        clear h
        go_simp
        exact ⟨Below.refl _ _, rfl⟩
      · intro a w' h
        have e37 : a.tmps.getD 37 undef = .pointer (some ⟨p5, 0, none⟩) := h.val 8 37 rfl rfl
        refine ⟨wanted_none rfl, ?_⟩
        simp at e37
        clear h
        go_simp
        exact ⟨Below.refl _ _, rfl⟩
      · intro a w' h
        have e38 : a.tmps.getD 38 undef = .pointer (some ⟨p5, 1, none⟩) := h.val 9 38 rfl rfl
        refine ⟨wanted_none rfl, ?_⟩
        simp at e38
        have q := (HC.out w' h.be).1.three
        clear h
        go_simp
        exact ⟨Below.refl _ _, rfl⟩
      · intro a w' h
        have e3 : a.tmps.getD 3 undef = .pointer (some ⟨p3, 0, none⟩) := h.old 3 rfl
        refine ⟨wanted_none rfl, ?_⟩
        simp at e3
        clear h
        go_simp
        exact ⟨Below.refl _ _, rfl⟩
      · intro a w' h
        have e40 : a.tmps.getD 40 undef = .pointer (some ⟨p3, 0, none⟩) := h.val 11 40 rfl rfl
        refine ⟨wanted_none rfl, ?_⟩
        simp at e40
        have q := (HC.out w' h.be).2.1.cell 0
        simp at q
        clear h
        go_simp
        exact ⟨Below.refl _ _, rfl⟩
      · intro a w' h
        have e41 : a.tmps.getD 41 undef = .int .u8 (t 0) := h.val 12 41 rfl rfl
        refine ⟨wanted_none rfl, ?_⟩
        simp at e41
        clear h
        go_simp
        exact ⟨Below.refl _ _, rfl⟩
      · intro a w' h
        have e42 : a.tmps.getD 42 undef = .int .i64 (t 0) := h.val 13 42 rfl rfl
        refine ⟨wanted_none rfl, ?_⟩
        simp at e42
        clear h
        go_simp
        exact ⟨Below.refl _ _, rfl⟩
      · intro a w' h
        have e39 : a.tmps.getD 39 undef = .int .i64 x.hi := h.val 10 39 rfl rfl
        have e43 : a.tmps.getD 43 undef = .int .i64 (t 0 / 64) := h.val 14 43 rfl rfl
        refine ⟨wanted_none rfl, ?_⟩
        simp at e39 e43
        clear h
        go_simp
        exact ⟨Below.refl _ _, rfl⟩
      · intro a w' h
        have e36 : a.tmps.getD 36 undef = .int .i64 (x.lo - t 0 % 2) := h.val 7 36 rfl rfl
        have e44 : a.tmps.getD 44 undef = .int .i64 (x.hi + t 0 / 64) := h.val 15 44 rfl rfl
        refine ⟨wanted_none rfl, ?_⟩
        simp at e36 e44
        clear h
        go_simp
        exact ⟨Below.refl _ _, rfl⟩
      · intro a w' h
        refine ⟨wanted_none rfl, ?_⟩
        clear h
        go_simp
        exact ⟨(Below.refl _ _).alloc (Nat.le_refl _) _, ⟨_, rfl⟩⟩
      · intro a w' h
        have e5 : a.tmps.getD 5 undef = .pointer (some ⟨p5, 0, none⟩) := h.old 5 rfl
        refine ⟨wanted_none rfl, ?_⟩
        simp at e5
        clear h
        go_simp
        exact ⟨Below.refl _ _, rfl⟩
      · intro a w' h
        have e47 : a.tmps.getD 47 undef = .pointer (some ⟨p5, 2, none⟩) := h.val 18 47 rfl rfl
        refine ⟨wanted_none rfl, ?_⟩
        simp at e47
        have q := (HC.out w' h.be).1.three
        clear h
        go_simp
        exact ⟨Below.refl _ _, rfl⟩
      · intro a w' h
        obtain ⟨b46, e46⟩ : (gNil) w' (a.tmps.getD 46 undef) := h.val 17 46 rfl rfl
        have e48 : a.tmps.getD 48 undef = .slice (some ⟨b0, off0, none⟩) x.n cap := h.val 19 48 rfl rfl
        refine ⟨wanted_none rfl, ?_⟩
        simp at e46 e48
        have hbs := h.be.size
        obtain ⟨v', w1, hr, ho, hg⟩ := run_append_arg_grows (P := Try.prog) w' 24 24 23 i0 (.agg #[.int .i64 0, .int .i64 0]) 2 16 under_spans HI.out hz0 hz1 hz2 rfl (by decide) ⟨b46, 0, none⟩ 0 0 [] rfl (by simp) ⟨b0, off0, none⟩ x.n cap (spans (x.ps x.n)) (by rw [spans_length, x.ps_len]; omega) (fun j u hj => row_reads (HC.out w' h.be).2.2 j u hj) (by omega) (by unfold maxLen; omega) (by omega)
        have hs1 : a.eval (.tmp 46) = .slice (some ⟨b46, 0, none⟩) 0 0 := by simpa [Act.eval] using e46
        have hs2 : a.eval (.tmp 48) = .slice (some ⟨b0, off0, none⟩) x.n cap := by simpa [Act.eval] using e48
        clear h e46 e48
        unfold stepUpon
        simp [execOp, resolve, invoke, builtin, hs1, hs2, hr, Result.andThen]
        refine ⟨below_of_grown hg, ?_⟩
        have ho' := Go.Joins.ownsRow_le ho hbs
        rw [Nat.zero_add, List.nil_append] at ho'
        rcases own_forms ho' with ⟨_, h0⟩ | ⟨g, c, rfl⟩
        · omega
        · exact ⟨_, _, rfl, ho'⟩
      · intro a w' h
        have e45 : a.tmps.getD 45 undef = .agg #[.int .i64 (x.lo - t 0 % 2), .int .i64 (x.hi + t 0 / 64)] := h.val 16 45 rfl rfl
        obtain ⟨g49, c49, e49, hv49⟩ : ((gOwnE x V1.heap.size)) w' (a.tmps.getD 49 undef) := h.val 20 49 rfl rfl
        refine ⟨wanted_none rfl, ?_⟩
        simp at e45 e49
        have Hhv49 := hide hv49
        clear hv49
        clear h
        go_simp
        exact ⟨Below.refl _ _, ⟨_, _, rfl, Hhv49.out⟩⟩
      · intro a w' h
        refine ⟨wanted_none rfl, ?_⟩
        have hbs := h.be.size
        clear h
        go_simp
        exact ⟨(Below.refl _ _).alloc (Nat.le_refl _) _, ⟨_, rfl, hbs, Blk.new _ _ _⟩⟩
  intro vs w2 hb2 hv
  have v0 := hv 0 (by omega)
  have v1 := hv 1 (by omega)
  have v2 := hv 2 (by omega)
  have v3 := hv 3 (by omega)
  have v4 := hv 4 (by omega)
  have v5 := hv 5 (by omega)
  have v6 := hv 6 (by omega)
  have v7 := hv 7 (by omega)
  have v8 := hv 8 (by omega)
  have v9 := hv 9 (by omega)
  have v10 := hv 10 (by omega)
  have v11 := hv 11 (by omega)
  have v12 := hv 12 (by omega)
  have v13 := hv 13 (by omega)
  have v14 := hv 14 (by omega)
  have v15 := hv 15 (by omega)
  have v16 := hv 16 (by omega)
  obtain ⟨g17, v17⟩ := hv 17 (by omega)
  have v18 := hv 18 (by omega)
  have v19 := hv 19 (by omega)
  obtain ⟨g20, c20, v20, -⟩ := hv 20 (by omega)
  obtain ⟨g21, c21, v21, hown⟩ := hv 21 (by omega)
  obtain ⟨p6, v22, hp6, k6⟩ := hv 22 (by omega)
  simp only [mGood] at v0 v1 v2 v3 v4 v5 v6 v7 v8 v9 v10 v11 v12 v13 v14 v15 v16 v18 v19
  simp only [List.take_succ_cons, List.take_zero, List.drop_succ_cons, List.drop_zero, putSeq, Act.put, List.setIfInBounds_toArray, List.set_cons_zero, List.set_cons_succ, v0, v1, v2, v3, v4, v5, v6, v7, v8, v9, v10, v11, v12, v13, v14, v15, v16, v17, v18, v19, v20, v21, v22, Nat.reduceAdd]
  clear hv v0 v1 v2 v3 v4 v5 v6 v7 v8 v9 v10 v11 v12 v13 v14 v15 v16 v17 v18 v19 v20 v21 v22 hX i1 i2 i3 i4 i5 i6 i7
  have hne : p6 ≠ g21 := by
    intro e
    subst e
    rcases hown.2 with ⟨h, _⟩ | ⟨g', cp, cur, h, _, hc, _⟩
    · cases h
    · cases h
      have := hc.symm.trans k6
      injection this with this
      injection this with _ h2
      exact absurd h2 (by decide)
  have hg21 := (hown.lt g21 rfl).1
  obtain ⟨h25, h23, h2r⟩ := HC.out w2 hb2
  have e6 := k6.three
  have l6 := k6.lt
  go_wp2_with fail
  have hM : MoI x t w p3 p5 p6 b0 off0 cap g21 c21 0 (((w2.setCell ⟨p6, 0, none⟩ (.int .i64 (x.lo - t 0 % 2))).setCell ⟨p6, 1, none⟩ (.int .i64 (x.hi + t 0 / 64))).setCell ⟨p6, 2, none⟩ (.slice (some ⟨g21, 0, none⟩) x.n c21)) := by
    have n35 : p3 ≠ p6 := by omega
    have n55 : p5 ≠ p6 := by omega
    have hw := HP3.out
    have hb3 : Below V1.heap.size V1 (setRow w2 p6 0 [.int .i64 (x.lo - t 0 % 2), .int .i64 (x.hi + t 0 / 64), .slice (some ⟨g21, 0, none⟩) x.n c21]) := below_setRow hb2 hp6 _ _
    refine ⟨hB2.trans (hb3.mono hB2.size), h23.otherRow n35 0 [.int .i64 (x.lo - t 0 % 2), .int .i64 (x.hi + t 0 / 64), .slice (some ⟨g21, 0, none⟩) x.n c21], h25.otherRow n55 0 [.int .i64 (x.lo - t 0 % 2), .int .i64 (x.hi + t 0 / 64), .slice (some ⟨g21, 0, none⟩) x.n c21], k6.setRow #[.int .i64 (x.lo - t 0 % 2), .int .i64 (x.hi + t 0 / 64), .slice (some ⟨g21, 0, none⟩) x.n c21] rfl, hr2.below (hb3.mono (Nat.le_of_lt z5)) (Nat.le_refl _), ?_, by omega, by omega, hne, hw⟩
    rw [more_0]
    exact own_stay (Go.Joins.ownsRow_le hown (by omega)) (fun k hk => by
      cases hk
      exact (Below.heap_setCell _ _ _ _ (Ne.symm hne)).trans ((Below.heap_setCell _ _ _ _ (Ne.symm hne)).trans (Below.heap_setCell _ _ _ _ (Ne.symm hne))))
  clear e6 l6 h25 h23 h2r k6 hown hb2 HC S0 k3 hr2 hB2 z3 z5 HI hz0 hz1 hz2 hp6 hg21 hne
  generalize World.setCell (World.setCell (World.setCell w2 _ _) _ _) _ _ = Z at *
  go_loopw [54] (fun i wr => ∃ k : Nat, k ≤ x.n ∧ i = .int .i64 (k : Int) ∧ MoI x t w p3 p5 p6 b0 off0 cap g21 c21 k wr) (fun i _ => x.n - (intOf i).toNat)
  case atStart => exact ⟨0, Nat.zero_le _, rfl, hM⟩
  case round =>
    clear hM
    obtain ⟨k, hk, rfl, M⟩ := hrel
    by_cases hkn : k < x.n
    · have hk3 : k = 0 ∨ k = 1 ∨ k = 2 := by omega
      have hsm := span_small HX.out (by omega : k < 3)
      have htk := HT.out.t (1 + k)
      have hmv : ∀ d, moreD x t k = d → (moreP x t k).2 = (x.span k).2 + d := fun d hd => by unfold moreP; rw [hd]
      have HMV := hide hmv
      have m6 := M.b6.three
      have l6 := M.b6.lt
      have l3 := M.b3.lt
      have hg := (M.own.lt g21 rfl).2
      have c3 : wr.cell? ⟨p3, 1 + k, none⟩ = some (.int .u8 (t (1 + k))) := by
        rw [M.b3.cell]
        rcases hk3 with rfl | rfl | rfl <;> rfl
      obtain ⟨a1, a2, a3⟩ := M.at_ hkn
      rw [if_neg (Nat.lt_irrefl k)] at a1 a2
      clear hmv hk3
      by_cases hlast : k + 1 = x.n
      · have HD : Hid (moreD x t k = t (1 + k) % 2) := hide (by unfold moreD; rw [if_pos (.inl hlast)])
        have e1 : (((k : Int) + 1) == (x.n : Int)) = true := by simp; omega
        have hl' : (k : Int) + 1 = (x.n : Int) := by omega
        have w1 : IntKind.i64.wrap ((k : Int) + 1) = (k : Int) + 1 := IntWalk.i64_in _ (by omega)
        have HLAST := hide hlast
        clear hlast hl'
        go_wp2_with fail
        go_quiet (fail)
        go_wp2_with fail
        have M1 := M.kept (below_drewN (Below.refl _ _) nq)
        clear M m6 l6 l3 hg c3 a1 a2 a3 w1
        generalize wr.drewN nq = Y at *
        have m6 := M1.b6.three
        have l6 := M1.b6.lt
        have l3 := M1.b3.lt
        have hg := (M1.own.lt g21 rfl).2
        have c3 : Y.cell? ⟨p3, 1 + k, none⟩ = some (.int .u8 (t (1 + k))) := by
          rw [M1.b3.cell]
          rcases (by omega : k = 0 ∨ k = 1 ∨ k = 2) with rfl | rfl | rfl <;> rfl
        obtain ⟨a1, a2, a3⟩ := M1.at_ hkn
        rw [if_neg (Nat.lt_irrefl k)] at a1 a2
        have w1 : IntKind.i64.wrap (1 + (k : Int)) = 1 + (k : Int) := IntWalk.i64_in _ (by omega)
        have w2 : (1 + (k : Int)).toNat = 1 + k := by omega
        have w3 : (1 + (k : Int)) < 4 := by omega
        have w4 : 0 ≤ (1 + (k : Int)) := by omega
        have w5 : IntKind.i64.wrap (t (1 + k)) = t (1 + k) := IntWalk.i64_in _ (by omega)
        have w6 : (t (1 + k)).tmod 2 = t (1 + k) % 2 := Int.tmod_eq_emod_of_nonneg (by omega)
        have w7 : IntKind.i64.wrap (t (1 + k) % 2) = t (1 + k) % 2 := IntWalk.i64_in _ (by omega)
        have w8 : IntKind.i64.wrap ((x.span k).2 + t (1 + k) % 2) = (x.span k).2 + t (1 + k) % 2 := IntWalk.i64_in _ (by omega)
        have w9 : (k : Int) < x.n := by omega
        go_still_tail 15, (by kernel_rfl)
        have M2 := M1.kept (Below.refl _ _).drew
        rw [show ({ heap := Y.heap, tape := Y.tape, drawn := Y.drawn + 1, os := Y.os, output := Y.output } : World) = Y.drew from rfl]
        clear M1 m6 l6 l3 hg c3 a1 a2 a3 w1 w2 w3 w4 w5 w6 w7 w8 w9
        generalize Y.drew = Y2 at *
        obtain ⟨a1, a2, a3⟩ := M2.at_ hkn
        have hg := (M2.own.lt g21 rfl).2
        have M3 := M2.next hkn (HMV.out _ HD.out).symm
        have M3H := hide M3
        clear M2 M3
        go_wp2_with fail
        exact ⟨⟨k + 1, by omega, by go_num, M3H.out⟩, by simp [intOf]; omega⟩
      · have hkl : k + 1 < x.n := by omega
        have hsm2 := span_small HX.out (by omega : k + 1 < 3)
        have hkl' : (k : Int) + 1 < x.n := by omega
        have e1 : (((k : Int) + 1) == (x.n : Int)) = false := by simp; omega
        obtain ⟨d1, d2, d3⟩ := M.at_ hkl
        rw [if_neg (by omega)] at d1 d2
        have w1 : IntKind.i64.wrap ((k : Int) + 1) = (k : Int) + 1 := IntWalk.i64_in _ (by omega)
        have w2 : ((k : Int) + 1).toNat = k + 1 := by omega
        have w3 : 0 ≤ (k : Int) + 1 := by omega
        have w4 : IntKind.i64.wrap ((x.span k).2 + 1) = (x.span k).2 + 1 := IntWalk.i64_in _ (by omega)
        by_cases hfar : (x.span k).2 + 1 < (x.span (k + 1)).1
        · have HD : Hid (moreD x t k = t (1 + k) % 2) := hide (by unfold moreD; rw [if_pos (.inr hfar)])
          clear hlast
          go_wp2_with fail
          go_quiet (fail)
          go_wp2_with fail
          have M1 := M.kept (below_drewN (Below.refl _ _) nq)
          clear M m6 l6 l3 hg c3 a1 a2 a3 w1 w2 w3 w4 d1 d2 d3 hkl'
          generalize wr.drewN nq = Y at *
          have m6 := M1.b6.three
          have l6 := M1.b6.lt
          have l3 := M1.b3.lt
          have hg := (M1.own.lt g21 rfl).2
          have c3 : Y.cell? ⟨p3, 1 + k, none⟩ = some (.int .u8 (t (1 + k))) := by
            rw [M1.b3.cell]
            rcases (by omega : k = 0 ∨ k = 1 ∨ k = 2) with rfl | rfl | rfl <;> rfl
          obtain ⟨a1, a2, a3⟩ := M1.at_ hkn
          rw [if_neg (Nat.lt_irrefl k)] at a1 a2
          have w1 : IntKind.i64.wrap (1 + (k : Int)) = 1 + (k : Int) := IntWalk.i64_in _ (by omega)
          have w2 : (1 + (k : Int)).toNat = 1 + k := by omega
          have w3 : (1 + (k : Int)) < 4 := by omega
          have w4 : 0 ≤ (1 + (k : Int)) := by omega
          have w5 : IntKind.i64.wrap (t (1 + k)) = t (1 + k) := IntWalk.i64_in _ (by omega)
          have w6 : (t (1 + k)).tmod 2 = t (1 + k) % 2 := Int.tmod_eq_emod_of_nonneg (by omega)
          have w7 : IntKind.i64.wrap (t (1 + k) % 2) = t (1 + k) % 2 := IntWalk.i64_in _ (by omega)
          have w8 : IntKind.i64.wrap ((x.span k).2 + t (1 + k) % 2) = (x.span k).2 + t (1 + k) % 2 := IntWalk.i64_in _ (by omega)
          have w9 : (k : Int) < x.n := by omega
          go_still_tail 15, (by kernel_rfl)
          have M2 := M1.kept (Below.refl _ _).drew
          rw [show ({ heap := Y.heap, tape := Y.tape, drawn := Y.drawn + 1, os := Y.os, output := Y.output } : World) = Y.drew from rfl]
          clear M1 m6 l6 l3 hg c3 a1 a2 a3 w1 w2 w3 w4 w5 w6 w7 w8 w9
          generalize Y.drew = Y2 at *
          obtain ⟨a1, a2, a3⟩ := M2.at_ hkn
          have hg := (M2.own.lt g21 rfl).2
          have M3 := M2.next hkn (HMV.out _ HD.out).symm
          have M3H := hide M3
          clear M2 M3
          go_wp2_with fail
          exact ⟨⟨k + 1, by omega, by go_num, M3H.out⟩, by simp [intOf]; omega⟩

        · have hfar' : decide ((x.span k).2 + 1 < (x.span (k + 1)).1) = false := by simpa using hfar
          have HD : Hid (moreD x t k = 0) := hide (by unfold moreD; rw [if_neg (by omega)])
          clear hlast hfar
          go_wp2_with fail
          go_quiet (fail)
          have M1 := M.kept (below_drewN (Below.refl _ _) nq)
          have M3H := hide (M1.skip hkn HD.out)
          clear M M1 m6 l6 l3 hg c3 a1 a2 a3 w1 w2 w3 w4 d1 d2 d3 hkl'
          go_wp2_with fail
          exact ⟨⟨k + 1, by omega, by go_num, M3H.out⟩, by simp [intOf]; omega⟩
    · obtain rfl : k = x.n := by omega
      have r6 : Row wr wr.heap.size (some ⟨g21, 0, none⟩) (spans (moreL x t).ps) := by
        obtain ⟨g', cc, e, _, hr⟩ := own_row M.own (by omega)
        cases e
        exact hr
      have r5 := M.row.mono (Nat.le_of_lt M.b5.lt)
      have k5 := M.b5
      have k6 := M.b6
      have hbe := M.be
      obtain ⟨m, hm⟩ : ∃ m, x.n = m + 1 := ⟨x.n - 1, by omega⟩
      have HM := hide hm
      have hm2 : 1 ≤ m ∧ m ≤ 2 ∧ m ≤ cap := by omega
      clear M hk hkn hm
      have u := k5.three
      have z := k5.lt
      go_wp2_with fail
      refine (countsF_any x.log _ x.n cap _ HPL.out (by omega) r5).mono ?_
      rw [HCR.out]
      rintro e W2 ⟨v8, rfl, hr8, hb2⟩
      dsimp only at hr8
      have k5' := k5.kept hb2
      have k6' := k6.kept hb2
      have r5' := (r5.below hb2 (Nat.le_refl _)).mono hb2.size
      have r6' := (r6.below hb2 (Nat.le_refl _)).mono hb2.size
      have hbe' := hbe.trans (hb2.mono hbe.size)
      clear k5 k6 r5 r6 hbe hb2 u z
      have u := k6'.three
      have z := k6'.lt
      go_wp2_with fail
      have HCO := hide (more_countsR HX.out HT.out)
      refine (countsF_any (moreL x t) (some ⟨g21, 0, none⟩) x.n c21 _ (more_len x t _).symm (by omega) r6').mono ?_
      rw [HCO.out]
      rintro e W3 ⟨v10, rfl, hr10, hb3⟩
      dsimp only at hr10
      have k5 := k5'.kept hb3
      have k6 := k6'.kept hb3
      have r5 := (r5'.below hb3 (Nat.le_refl _)).mono hb3.size
      have r6 := (r6'.below hb3 (Nat.le_refl _)).mono hb3.size
      have hbe := hbe'.trans (hb3.mono hbe'.size)
      have hr8' := hr8.below hb3
      clear k5' k6' r5' r6' hbe' hr8 hb3 u z
      go_wp2_with fail
      have u := k5.three
      have z := k5.lt
      have hX := @Ext.cell W3
      have w1 : IntKind.i64.wrap ((x.n : Int) - 1) = (m : Int) := by rw [HM.out, IntWalk.i64_in _ (by omega)]; omega
      have w2 : (m : Int) ≤ cap := by omega
      refine wp_region_one #[.int .i64 0, .int .i64 0, .slice none 0 0] 26 12 10 (by kernel_rfl) (by kernel_rfl) ⟨_, rfl, rfl, rfl, (by intro cs b h; cases h), fun ev w => by simp [go_sem]⟩ ?_
      simp only [List.take_succ_cons, List.take_zero, List.drop_succ_cons, List.drop_zero]
      repeat (refine wpGrow_step (fun K hK => ?_); go_simp; (refine hK _ ?_; clear hK K))
      refine wpGrow_nil ?_
      intro W4 p12 hb4 hp12 k12
      simp only [Act.put, List.setIfInBounds_toArray, List.set_cons_zero, List.set_cons_succ]
      clear hX w1 w2 u z
      have u := k12.three
      have z := k12.lt
      obtain ⟨va, vcap, hv, hvl⟩ := hr8'.form
      obtain ⟨vo, vocap, hvo, hvol⟩ := hr10.form
      obtain ⟨L, hL⟩ : ∃ L, L = (allC x.log).length := ⟨_, rfl⟩
      obtain ⟨Lo, hLo⟩ : ∃ Lo, Lo = (allC (moreL x t)).length := ⟨_, rfl⟩
      rw [← hL] at hv hvl
      rw [← hLo] at hvo hvol
      have HL := hide hL
      have HLo := hide hLo
      subst hv
      subst hvo
      have hL5 : L ≤ 500 := by have := watch_few HX.out; rw [← HL.out] at this; exact this
      have hLo5 : Lo ≤ 500 := by have := more_few HX.out HT.out; rw [← HLo.out] at this; exact this
      clear hL hLo hvl hvol
      go_wp2_with fail
      have J0 : MoJ x t w m p5 p6 p12 (some ⟨b0, off0, none⟩) (some ⟨g21, 0, none⟩) cap c21 (((W4.setCell ⟨p12, 0, none⟩ (.int .i64 x.lo)).setCell ⟨p12, 1, none⟩ (.int .i64 x.hi)).setCell ⟨p12, 2, none⟩ (.slice (some ⟨b0, off0, none⟩) m cap)) := by
        have hb5 : Below W3.heap.size W3 (setRow W4 p12 0 [.int .i64 x.lo, .int .i64 x.hi, .slice (some ⟨b0, off0, none⟩) m cap]) := below_setRow hb4 hp12 _ _
        exact ⟨hbe.trans (hb5.mono hbe.size), k5.kept hb5, k6.kept hb5, k12.setRow #[.int .i64 x.lo, .int .i64 x.hi, .slice (some ⟨b0, off0, none⟩) m cap] rfl, (r5.below hb5 (Nat.le_refl _)).mono hb5.size, (r6.below hb5 (Nat.le_refl _)).mono hb5.size⟩
      have hbf : Below W3.heap.size W3 (((W4.setCell ⟨p12, 0, none⟩ (.int .i64 x.lo)).setCell ⟨p12, 1, none⟩ (.int .i64 x.hi)).setCell ⟨p12, 2, none⟩ (.slice (some ⟨b0, off0, none⟩) m cap)) := below_setRow (vs := [.int .i64 x.lo, .int .i64 x.hi, .slice (some ⟨b0, off0, none⟩) m cap]) hb4 hp12 0
      have hq8 := hr8'.below hbf
      have hq10 := hr10.below hbf
      clear u z k12 hb4 hbf hr8' hr10 k5 k6 r5 r6 hbe hp12
      generalize World.setCell (World.setCell (World.setCell W4 _ _) _ _) _ _ = Z2 at *
      go_loopw [124] (fun i wr => ∃ k : Nat, k ≤ L ∧ i = .int .i64 (k : Int) ∧ MoJ x t w m p5 p6 p12 (some ⟨b0, off0, none⟩) (some ⟨g21, 0, none⟩) cap c21 wr ∧ Rows2 wr (.slice va L vcap) (allC x.log) ∧ Rows2 wr (.slice vo Lo vocap) (allC (moreL x t))) (fun i _ => L - (intOf i).toNat)
      case atStart => exact ⟨0, Nat.zero_le _, rfl, J0, hq8, hq10⟩
      case round =>
        clear J0 hq8 hq10
        obtain ⟨k, hk, rfl, J, hrw, hro⟩ := hrel
        by_cases hkL : k < L
        · have hkl : k < (allC x.log).length := by rw [← HL.out]; exact hkL
          obtain ⟨c, hc⟩ : ∃ c, (allC x.log)[k]? = some c := ⟨_, List.getElem?_eq_getElem hkl⟩
          obtain ⟨vb, voff, vg, vcp, hva, vcell, vle, vrow⟩ := hrw.at_ hc
          have HMEM := hide (List.mem_of_getElem? hc : c ∈ allC x.log)
          have hcl : c.length ≤ 2 ∧ 1 ≤ c.length := by have := (watch_ends HX.out HMEM.out).1; omega
          subst hva
          clear hkl hc
          obtain ⟨wo, rfl⟩ : ∃ wo : World, wo = wr := ⟨_, rfl⟩
          go_wp2_with fail
          clear vcell
          go_loopw [15, 130] (fun f j wr => ∃ jj : Nat, jj ≤ Lo ∧ j = .int .i64 (jj : Int) ∧ f = .bool (decide (c ∈ (allC (moreL x t)).take jj)) ∧ MoJ x t w m p5 p6 p12 (some ⟨b0, off0, none⟩) (some ⟨g21, 0, none⟩) cap c21 wr ∧ Rows2 wr (.slice (some ⟨vb, voff, none⟩) L vcap) (allC x.log) ∧ Rows2 wr (.slice vo Lo vocap) (allC (moreL x t)) ∧ Row wr wr.heap.size (some ⟨vg, 0, none⟩) (ints c)) (fun _ j _ => Lo - (intOf j).toNat)
          case atStart => exact ⟨0, Nat.zero_le _, rfl, by simp, J, hrw, hro, vrow⟩
          case round =>
            clear J hrw hro vrow
            obtain ⟨jj, hj, rfl, rfl, J, hrw, hro, vrow⟩ := hrel
            by_cases hjL : jj < Lo
            · have hjl : jj < (allC (moreL x t)).length := by rw [← HLo.out]; exact hjL
              obtain ⟨d, hd⟩ : ∃ d, (allC (moreL x t))[jj]? = some d := ⟨_, List.getElem?_eq_getElem hjl⟩
              obtain ⟨ub, uoff, ug, ucp, hua, ucell, ule, urow⟩ := hro.at_ hd
              have hdl : d.length ≤ 1000000000 := by
                have := ((mem_allC (more_ok HX.out HT.out) d).1 (List.mem_of_getElem? hd)).1
                rw [show (moreL x t).ps.length = x.n from more_len x t _] at this
                omega
              have hsn : (allC (moreL x t)).take (jj + 1) = (allC (moreL x t)).take jj ++ [d] := by
                rw [List.take_add_one, hd]
                rfl
              have HSN := hide hsn
              subst hua
              clear hjl hd hsn
              by_cases hin : c ∈ (allC (moreL x t)).take jj
              · have HN : Hid (decide (c ∈ (allC (moreL x t)).take (jj + 1)) = true) := hide (by rw [HSN.out]; simp [hin])
                rw [decide_eq_true hin]
                clear hin
                go_wp2_with fail
                exact ⟨⟨jj + 1, by omega, by go_num, by rw [HN.out], J, hrw, hro, vrow⟩, by simp [intOf]; omega⟩
              · have HN : Hid (decide (c ∈ (allC (moreL x t)).take (jj + 1)) = decide (c = d)) := hide (by rw [HSN.out]; simp [hin])
                rw [decide_eq_false hin]
                clear hin
                go_wp2_with fail
                refine (numbers_any c d _ _ c.length vcp d.length ucp _ _ _ rfl rfl (by omega) hdl vrow urow).mono ?_
                rintro e W5 ⟨rfl, hb5⟩
                have J5 := J.kept hb5
                have hrw5 := hrw.below hb5
                have hro5 := hro.below hb5
                have vrow5 := (vrow.below hb5 (Nat.le_refl _)).mono hb5.size
                clear J hrw hro vrow hb5 ucell urow
                by_cases hcd : c = d
                · rw [decide_eq_true hcd] at HN ⊢
                  clear hcd
                  go_wp2_with fail
                  exact ⟨⟨jj + 1, by omega, by go_num, by rw [HN.out], J5, hrw5, hro5, vrow5⟩, by simp [intOf]; omega⟩
                · rw [decide_eq_false hcd] at HN ⊢
                  clear hcd
                  go_wp2_with fail
                  exact ⟨⟨jj + 1, by omega, by go_num, by rw [HN.out], J5, hrw5, hro5, vrow5⟩, by simp [intOf]; omega⟩
            · have hin : c ∈ (allC (moreL x t)).take jj := by
                rw [List.take_of_length_le (by rw [← HLo.out]; omega)]
                exact (more_mem HX.out HT.out HMEM.out).1
              rw [decide_eq_true hin]
              clear hin
              have hclen := (watch_ends HX.out HMEM.out).1
              have hcm := (more_mem HX.out HT.out HMEM.out).2
              obtain ⟨A, B, P, Q, MP⟩ := wide_periods HX.out HMEM.out (more_ok HX.out HT.out) hcm (by rw [show (moreL x t).ps.length = x.n from more_len x t _]; exact hclen) (more_wd HX.out HT.out hclen)
              obtain ⟨A1, A2⟩ := A
              obtain ⟨B1, B2⟩ := B
              obtain ⟨P1, P2⟩ := P
              obtain ⟨Q1, Q2⟩ := Q
              have ga := MP.a
              have gb := MP.b
              have gp := MP.p
              have gq := MP.q
              have HCLEN := hide hclen
              have S0 : BSt w [] wr := ⟨J.be, Boxes.nil _⟩
              clear hcm hclen
              dsimp only at ga gb gp gq
              have u := J.b5.three
              have z := J.b5.lt
              go_wp2_with fail
              refine (periodF_any x.log c _ _ x.n cap c.length vcp _ HPL.out rfl (by omega) (by omega) vle J.r5 vrow).mono ?_
              rw [MP.pl]
              dsimp only
              rintro e W7 ⟨rfl, hb7⟩
              have hb7' : Below W7.heap.size W7 ((W7.alloc (.cells #[.int .i64 A1, .int .i64 A2] 41)).alloc (.cells #[.int .i64 B1, .int .i64 B2] 41)) := ((Below.refl _ _).alloc (Nat.le_refl _) _).alloc (by simp) _
              have S7 := ((S0.kept hb7).new #[.int .i64 A1, .int .i64 A2] 41).new #[.int .i64 B1, .int .i64 B2] 41
              have hb7'' := hb7.trans (hb7'.mono hb7.size)
              have J7 := J.kept hb7''
              have vr7 := (vrow.below hb7'' (Nat.le_refl _)).mono hb7''.size
              have hw7 := hrw.below hb7''
              have ho7 := hro.below hb7''
              rw [World.size_alloc] at S7
              clear J S0 vrow hrw hro hb7 hb7' hb7'' u z
              have u := J7.b6.three
              have z := J7.b6.lt
              go_wp2_with fail
              generalize World.alloc (World.alloc W7 _) _ = X7 at *
              generalize W7.heap.size = P7 at *
              refine (periodF_any (moreL x t) c _ _ x.n c21 c.length vcp _ (more_len x t _).symm rfl (by omega) (by omega) vle J7.r6 vr7).mono ?_
              rw [MP.po]
              dsimp only
              rintro e W8 ⟨rfl, hb8⟩
              have hb8' : Below W8.heap.size W8 ((W8.alloc (.cells #[.int .i64 P1, .int .i64 P2] 41)).alloc (.cells #[.int .i64 Q1, .int .i64 Q2] 41)) := ((Below.refl _ _).alloc (Nat.le_refl _) _).alloc (by simp) _
              have S8 := ((S7.kept hb8).new #[.int .i64 P1, .int .i64 P2] 41).new #[.int .i64 Q1, .int .i64 Q2] 41
              have hb8'' := hb8.trans (hb8'.mono hb8.size)
              have J8 := J7.kept hb8''
              have vr8 := (vr7.below hb8'' (Nat.le_refl _)).mono hb8''.size
              have hw8 := hw7.below hb8''
              have ho8 := ho7.below hb8''
              rw [World.size_alloc] at S8
              clear J7 S7 vr7 hw7 ho7 hb8 hb8' hb8'' u z
              have q1 := (S8.boxes _ (by simp : (P7, #[Value.int .i64 A1, Value.int .i64 A2], 41) ∈ _)).two
              have q2 := (S8.boxes _ (by simp : (P7 + 1, #[Value.int .i64 B1, Value.int .i64 B2], 41) ∈ _)).two
              have l1 := (S8.boxes _ (by simp : (P7, #[Value.int .i64 A1, Value.int .i64 A2], 41) ∈ _)).lt
              have l2 := (S8.boxes _ (by simp : (P7 + 1, #[Value.int .i64 B1, Value.int .i64 B2], 41) ∈ _)).lt
              go_wp2_with fail
              refine (less_any (A1, A2) (P1, P2) _ ga.2.1 ga.2.2 gp.2.1 gp.2.2).mono ?_
              rw [MP.lo]
              rintro e W9 ⟨rfl, hb9⟩
              have J9 := J8.kept hb9
              have S9 := S8.kept hb9
              have vr9 := (vr8.below hb9 (Nat.le_refl _)).mono hb9.size
              have hw9 := hw8.below hb9
              have ho9 := ho8.below hb9
              clear J8 S8 vr8 hw8 ho8 hb9 q1 q2 l1 l2
              have q2 := (S9.boxes _ (by simp : (P7 + 1, #[Value.int .i64 B1, Value.int .i64 B2], 41) ∈ _)).two
              have q4 := (S9.boxes _ (by simp : (W8.heap.size + 1, #[Value.int .i64 Q1, Value.int .i64 Q2], 41) ∈ _)).two
              have l2 := (S9.boxes _ (by simp : (P7 + 1, #[Value.int .i64 B1, Value.int .i64 B2], 41) ∈ _)).lt
              have l4 := (S9.boxes _ (by simp : (W8.heap.size + 1, #[Value.int .i64 Q1, Value.int .i64 Q2], 41) ∈ _)).lt
              go_wp2_with fail
              refine (less_any (Q1, Q2) (B1, B2) _ gq.2.1 gq.2.2 gb.2.1 gb.2.2).mono ?_
              rw [MP.hi]
              rintro e W10 ⟨rfl, hb10⟩
              have J10 := J9.kept hb10
              have S10 := S9.kept hb10
              have vr10 := (vr9.below hb10 (Nat.le_refl _)).mono hb10.size
              have hw10 := hw9.below hb10
              have ho10 := ho9.below hb10
              clear J9 S9 vr9 hw9 ho9 hb10 q2 q4 l2 l4
              have u := J10.b5.three
              have z := J10.b5.lt
              have hml : c.length = m := by have := HCLEN.out; rw [HM.out] at this; omega
              have HML := hide hml
              have hxm : (x.n : Int) = (m : Int) + 1 := by rw [HM.out]; omega
              have hne1 : ((c.length : Int) != ((x.n : Int) - 1)) = false := by rw [hml, hxm]; simp
              have hne2 : ((c.length : Int) != (m : Int)) = false := by rw [hml]; simp
              have w1 : IntKind.i64.wrap ((x.n : Int) - 1) = (x.n : Int) - 1 := IntWalk.i64_in _ (by omega)
              clear hml hxm
              by_cases h1 : 1 < c.length
              · have h3 : x.n = 3 := by have := HCLEN.out; omega
                have hc2 : c.length = 2 := by omega
                have htl : (c.take 1).length = 1 := by simp; omega
                have hso := short_ok HX.out h3
                have hsl : m = (shortL x).ps.length := by
                  show m = ((x.ps x.n).take (x.n - 1)).length
                  rw [List.length_take, x.ps_len, HM.out]
                  omega
                have hm22 : m = 2 := by have := HM.out; omega
                have hcs : COk (shortL x) (c.take 1) := ⟨by omega, fun y hy => (more_mem HX.out HT.out HMEM.out).2.inb y (List.mem_of_mem_take hy)⟩
                obtain ⟨A', B', U, V, MP2⟩ := wide_periods HX.out HMEM.out hso hcs (by omega) (short_wd HX.out h3 HCLEN.out)
                obtain ⟨U1, U2⟩ := U
                obtain ⟨V1', V2⟩ := V
                have e := MP.pl.symm.trans MP2.pl
                injection e with e1 e2
                injection e2 with e2 _
                subst e1
                subst e2
                have gu := MP2.p
                have gv := MP2.q
                dsimp only at gu gv
                have HSL := hide hsl
                have HTL := hide htl
                have rs5 : Row W10 W10.heap.size (some ⟨b0, off0, none⟩) (spans (shortL x).ps) := by
                  have := J10.r5.begin (2 * m)
                  rw [spans_take] at this
                  have e : x.log.ps.take m = (shortL x).ps := by
                    show (x.ps x.n).take m = (x.ps x.n).take (x.n - 1)
                    rw [HM.out]
                    rfl
                  rw [e] at this
                  exact this
                have vs10 : Row W10 W10.heap.size (some ⟨vg, 0, none⟩) (ints (c.take 1)) := by
                  have := vr10.begin 1
                  rw [show (ints c).take 1 = ints (c.take 1) by simp [ints, List.map_take]] at this
                  exact this
                have HC2 := hide hc2
                clear h3 hc2 htl hso hsl hcs hm22
                go_wp2_with fail
                have u := J10.b12.three
                have z := J10.b12.lt
                have hX := @Ext.cell W10
                have w2 : IntKind.i64.wrap ((c.length : Int) - 1) = 1 := by have h2 := HC2.out; rw [IntWalk.i64_in _ (by omega)]; omega
                have w3 : (1 : Int) ≤ vcp := by have := HC2.out; omega
                have w4 : 1 ≤ vcp := by have := HC2.out; omega
                have hm1 : m ≤ 1000000000 := by omega
                have h11 : 1 ≤ 1000000000 := by omega
                have HPC := hide (fun X : Ext W10 => period_is MP2.po (some ⟨b0, off0, none⟩) (some ⟨vg, 0, none⟩) m cap 1 vcp X.w HSL.out HTL.out.symm hm1 h11 w4 ((rs5.below X.below (Nat.le_refl _)).mono X.below.size) ((vs10.below X.below (Nat.le_refl _)).mono X.below.size))
                clear hm1 h11
                refine wp_region_pair4 #[.int .i64 0, .int .i64 0] #[.int .i64 U1, .int .i64 U2] #[.int .i64 0, .int .i64 0] #[.int .i64 V1', .int .i64 V2] rfl rfl 41 41 24 25 11 _ _ (by kernel_rfl) (by kernel_rfl) (by decide)
                  ⟨_, rfl, rfl, rfl, (by intro cs b h; cases h), fun ev w => by simp [go_sem]⟩ ⟨_, rfl, rfl, rfl, (by intro cs b h; cases h), fun ev w => by simp [go_sem]⟩ rfl rfl rfl rfl rfl rfl ?_
                simp only [List.take_succ_cons, List.take_zero, List.drop_succ_cons, List.drop_zero]
                repeat (refine wpGrow_step (fun K hK => ?_); go_simp; first | (refine hK _ ?_; clear hK K) | (apply Exists.intro; refine ⟨fun _ => ?_, hK _ ?_⟩; (go_at_call 29; exact HPC.out _); clear hK K))
                refine wpGrow_nil ?_
                intro p24 p25 hl24 hl25 hne24
                simp only [Act.put, List.setIfInBounds_toArray, List.set_cons_zero, List.set_cons_succ]
                refine ⟨fun w' hbw bk1 => ?_, fun w' hbw bk1 bk2 => ?_, fun W11 hb11 bk1 bk2 => ?_⟩
                · obtain ⟨e1, e2, e3, e4⟩ := bk1.two
                  unfold StoresA
                  simp only [setRow]
                  go_simp
                · obtain ⟨e1, e2, e3, e4⟩ := bk2.two
                  unfold StoresA
                  simp only [setRow]
                  go_simp
                · clear hX u z w2 w3 w4 HPC
                  have J11 := J10.kept hb11
                  have S11 := S10.kept hb11
                  have hw11 := hw10.below hb11
                  have ho11 := ho10.below hb11
                  clear J10 S10 vr10 hw10 ho10 rs5 vs10 hb11
                  have q1 := (S11.boxes _ (by simp : (P7, #[Value.int .i64 A1, Value.int .i64 A2], 41) ∈ _)).two
                  have l1 := (S11.boxes _ (by simp : (P7, #[Value.int .i64 A1, Value.int .i64 A2], 41) ∈ _)).lt
                  have q3 := bk1.two
                  have q4 := bk2.two
                  have l3 := bk1.lt
                  have l4 := bk2.lt
                  go_wp2_with fail
                  refine (less_any (A1, A2) (U1, U2) _ ga.2.1 ga.2.2 gu.2.1 gu.2.2).mono ?_
                  rw [MP2.lo]
                  rintro e W12 ⟨rfl, hb12⟩
                  have J12 := J11.kept hb12
                  have S12 := S11.kept hb12
                  have hw12 := hw11.below hb12
                  have ho12 := ho11.below hb12
                  have bk3 := bk2.kept hb12
                  clear J11 S11 hw11 ho11 hb12 q1 l1 q3 q4 l3 l4 bk1 bk2
                  have q2 := (S12.boxes _ (by simp : (P7 + 1, #[Value.int .i64 B1, Value.int .i64 B2], 41) ∈ _)).two
                  have l2 := (S12.boxes _ (by simp : (P7 + 1, #[Value.int .i64 B1, Value.int .i64 B2], 41) ∈ _)).lt
                  have q4 := bk3.two
                  have l4 := bk3.lt
                  go_wp2_with fail
                  refine (less_any (V1', V2) (B1, B2) _ gv.2.1 gv.2.2 gb.2.1 gb.2.2).mono ?_
                  rw [MP2.hi]
                  rintro e W13 ⟨rfl, hb13⟩
                  have J13 := J12.kept hb13
                  have hw13 := hw12.below hb13
                  have ho13 := ho12.below hb13
                  clear J12 S12 hw12 ho12 hb13 q2 l2 q4 l4 bk3
                  go_wp2_with fail
                  exact ⟨⟨k + 1, by omega, by go_num, J13, hw13, ho13⟩, by simp [intOf]; omega⟩
              · go_wp2_with fail
                exact ⟨⟨k + 1, by omega, by go_num, J10, hw10, ho10⟩, by simp [intOf]; omega⟩
        · go_wp2_with (go_at_call 13; refine (works_any _).mono ?_; rintro e W9 ⟨rfl, hb9⟩)
          go_ret
          exact ⟨rfl, J.be.trans (hb9.mono J.be.size)⟩

end Go.Proofs.Ytjgebepeghgmcaa

