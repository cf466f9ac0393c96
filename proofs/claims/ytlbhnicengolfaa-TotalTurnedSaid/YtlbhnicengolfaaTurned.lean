/-
  TotalTurned: the walk.
-/
import Derived.Test.YtlbhnicengolfaaSusF
import Derived.Test.YtlbhnicengolfaaTurnP
namespace Go.Proofs.Ytlbhnicengolfaa
open Go.RowKit
set_option linter.unusedVariables false
set_option linter.unusedSimpArgs false

theorem made_spans (n : Nat) : madeCells (Value.agg #[.int .i64 0, .int .i64 0]).cells (n * 2) = (spans (List.replicate n (0, 0))).toArray := by
  have hl : ∀ m, spans (List.replicate m (0, 0)) = List.replicate (m * 2) (.int .i64 0) := fun m => by
    induction m with
    | zero => rfl
    | succ m ih => rw [List.replicate_succ, show (m + 1) * 2 = m * 2 + 1 + 1 by omega, List.replicate_succ, List.replicate_succ, ← ih]; rfl
  rw [hl]
  apply Array.ext'
  apply List.ext_getElem?
  intro i
  by_cases h : i < n * 2
  · have hm : i % 2 = 0 ∨ i % 2 = 1 := by omega
    rcases hm with hm | hm <;> simp [madeCells, Value.cells, h, hm]
  · simp [madeCells, Value.cells, h]

/-- Where the turned net's quantities are being written. -/
def TurP (n : TNet) (r k : Nat) (c : List Sp) : Prop := c.length = n.sp.length ∧ ∀ j, j < k → c.getD (toQ n.sp.length r j) (0, 0) = n.sp.getD j (0, 0)
theorem TurP.set {n : TNet} {r k : Nat} {c : List Sp} (h : TurP n r k c) (hk : k < n.sp.length) : TurP n r (k + 1) (c.set (toQ n.sp.length r k) (n.sp.getD k (0, 0))) := by
  refine ⟨by rw [List.length_set]; exact h.1, fun j hj => ?_⟩
  have hl : toQ n.sp.length r k < c.length := by rw [h.1]; exact toQ_lt (by omega)
  rw [List.getD_eq_getElem?_getD, List.getElem?_set]
  by_cases e : j = k
  · subst e
    rw [if_pos rfl, if_pos hl]; rfl
  · rw [if_neg (fun e' => e (toQ_inj hk (by omega) e').symm), ← List.getD_eq_getElem?_getD]
    exact h.2 j (by omega)
theorem TurP.full {n : TNet} {r : Nat} {c : List Sp} (h : TurP n r n.sp.length c) : c = (turnN n r).sp := by
  refine List.ext_getElem (by rw [h.1]; simp [turnN]) fun p h1 h2 => ?_
  have hp : p < n.sp.length := by rw [← h.1]; exact h1
  have := h.2 (backQ n.sp.length r p) (toQ_lt (by omega))
  rw [to_back hp, List.getD_eq_getElem?_getD, List.getElem?_eq_getElem h1] at this
  simp only [Option.getD_some] at this
  rw [this]
  simp [turnN]

theorem to_any (N r q bt bm : Nat) (w : World) (hN : 0 < N) (hN2 : N ≤ 100) (hr : r ≤ 255) (hq : q ≤ 1000) (kt : Blk w bt #[.int .u8 (r : Int)] 5) (km : Blk w bm #[.int .i64 (N : Int)] 3) :
    Calls Try.prog 43 #[.int .i64 (q : Int), .pointer (some ⟨bt, 0, none⟩), .pointer (some ⟨bm, 0, none⟩)] w fun e w' => e = .returned (.int .i64 ((toQ N r q : Nat) : Int)) ∧ w' = w := by
  obtain ⟨t0, _⟩ := kt.one
  obtain ⟨m0, _⟩ := km.one
  have lt := kt.lt
  have lm := km.lt
  have HE : Hid (((q : Int) + r) % (N : Int) = ((toQ N r q : Nat) : Int)) := hide (by
    unfold toQ
    rw [Int.natCast_emod, Int.natCast_add])
  have w1 : IntKind.i64.wrap (r : Int) = (r : Int) := IntWalk.i64_in _ (by omega)
  have w2 : IntKind.i64.wrap ((q : Int) + r) = (q : Int) + r := IntWalk.i64_in _ (by omega)
  have htl := toQ_lt (r := r) (q := q) hN
  have w3 : IntKind.i64.wrap ((toQ N r q : Nat) : Int) = ((toQ N r q : Nat) : Int) := IntWalk.i64_in _ ⟨Int.le_trans (by decide) (Int.natCast_nonneg _), by omega⟩
  clear htl
  clear hq
  have hz : (N : Int) ≠ 0 := by omega
  clear kt km
  go_enter Try.func43, Try.ntmps43
  go_wp2_with fail
  go_ret
  exact ⟨congrArg (fun x => Ending.returned (Value.int .i64 x)) HE.out, rfl⟩

/-- The world while the turned net is made. -/
structure TuIn (W1 : World) (nb : Nat) (sa : Option Addr) (N scap : Nat) (ta : Option Addr) (T tcap : Nat) (c : List Sp) (ov : Value) (k : Nat) (ts' : List Tri) (wr : World) : Prop where
  kn : Blk wr nb #[.slice sa N scap, .slice ta T tcap] 25
  km : Blk wr (nb + 1) #[.int .i64 (N : Int)] 3
  ko : Blk wr (nb + 3) #[.slice (some ⟨nb + 2, 0, none⟩) N N, ov] 25
  oo : wr.ownsRow nb 53 2 (.slice (some ⟨nb + 2, 0, none⟩) N N) N (spans c)
  oot : wr.ownsRow nb 75 3 ov k (tris ts')
  be : Below nb W1 wr

section
variable {W1 : World} {nb : Nat} {sa : Option Addr} {N scap : Nat} {ta : Option Addr} {T tcap : Nat} {c : List Sp} {ov : Value} {k : Nat} {ts' : List Tri} {wr : World}
theorem TuIn.setS (h : TuIn W1 nb sa N scap ta T tcap c ov k ts' wr) (q : Nat) (x y : Int) :
    TuIn W1 nb sa N scap ta T tcap (c.set q (x, y)) ov k ts' ((wr.setCell ⟨nb + 2, q * 2, none⟩ (.int .i64 x)).setCell ⟨nb + 2, q * 2 + 1, none⟩ (.int .i64 y)) :=
  have g := grownBy_trans (own2_grown wr (nb + 2) (q * 2) (.int .i64 x)) (own2_grown (wr.setCell ⟨nb + 2, q * 2, none⟩ (.int .i64 x)) (nb + 2) (q * 2 + 1) (.int .i64 y))
  ⟨blk_grown h.kn g (fun j e => by cases e; omega), blk_grown h.km g (fun j e => by cases e; omega), blk_grown h.ko g (fun j e => by cases e; omega), own2_set h.oo q x y, h.oot.kept g (own_ne h.oot h.oo (by decide)),
    below_own h.be h.oo (Nat.le_refl _) (by have := h.kn.lt; omega) g⟩
theorem TuIn.drewN (h : TuIn W1 nb sa N scap ta T tcap c ov k ts' wr) (m : Nat) : TuIn W1 nb sa N scap ta T tcap c ov k ts' (wr.drewN m) :=
  ⟨h.kn, h.km, h.ko, h.oo, h.oot, below_drewN h.be m⟩

theorem TuIn.kept (h : TuIn W1 nb sa N scap ta T tcap c ov k ts' wr) {W : World} (hb : Below wr.heap.size wr W) : TuIn W1 nb sa N scap ta T tcap c ov k ts' W :=
  ⟨h.kn.kept hb, h.km.kept hb, h.ko.kept hb, own_kept h.oo hb, own_kept h.oot hb, h.be.trans (hb.mono (by have := h.kn.lt; omega))⟩
end

theorem turn_tri {n : TNet} (h : NOk n) {p : Nat} (hp : p < n.ts.length) : ∃ aa bb cc : Nat, tri n.ts p = ((aa : Int), (bb : Int), (cc : Int)) ∧ aa < n.sp.length ∧ bb < n.sp.length ∧ cc < n.sp.length := by
  have hin := nok_in h (tri n.ts p) (by rw [tri_eq hp]; exact List.getElem_mem _)
  obtain ⟨t, ht⟩ : ∃ t, tri n.ts p = t := ⟨_, rfl⟩
  rw [ht] at hin ⊢
  obtain ⟨a, b, c⟩ := t
  have ha := hin a (by simp [cor])
  have hb := hin b (by simp [cor])
  have hc := hin c (by simp [cor])
  exact ⟨a.toNat, b.toNat, c.toNat, by rw [Int.toNat_of_nonneg ha.1, Int.toNat_of_nonneg hb.1, Int.toNat_of_nonneg hc.1], by omega, by omega, by omega⟩
theorem turn_take {n : TNet} {r p k : Nat} (hpk : p + 1 + k = n.ts.length) {aa bb cc : Nat} (ht : tri n.ts p = ((aa : Int), (bb : Int), (cc : Int))) :
    (turnN n r).ts.take (k + 1) = (turnN n r).ts.take k ++ [(((toQ n.sp.length r bb : Nat) : Int), ((toQ n.sp.length r aa : Nat) : Int), ((toQ n.sp.length r cc : Nat) : Int))] := by
  have hk : k < (turnN n r).ts.length := by simp [turnN]; omega
  rw [List.take_succ_eq_append_getElem hk]
  have e : (turnN n r).ts[k] = turnT n.sp.length r (tri n.ts p) := by
    simp only [turnN, List.getElem_map, List.getElem_reverse]
    rw [tri_eq (i := p) (by omega)]
    congr 1
    congr 1
    omega
  rw [e, ht]
  simp [turnT, toI]

/-- The world while Squares and Suspects are asked. -/
structure TuN (w : World) (b nb : Nat) (n n' : TNet) (r : Nat) (sa : Option Addr) (N scap : Nat) (ta : Option Addr) (T tcap : Nat) (oa : Option Addr) (ocap : Nat) (W : World) : Prop where
  kn : Blk W nb #[.slice sa N scap, .slice ta T tcap] 25
  km : Blk W (nb + 1) #[.int .i64 (N : Int)] 3
  ko : Blk W (nb + 3) #[.slice (some ⟨nb + 2, 0, none⟩) N N, .slice oa T ocap] 25
  kt : Blk W b #[.int .u8 (r : Int)] 5
  n1 : NetIn n sa ta N T tcap W
  n2 : NetIn n' (some ⟨nb + 2, 0, none⟩) oa N T ocap W
  be : Below w.heap.size w W
theorem TuN.kept {w : World} {b nb : Nat} {n n' : TNet} {r : Nat} {sa : Option Addr} {N scap : Nat} {ta : Option Addr} {T tcap : Nat} {oa : Option Addr} {ocap : Nat} {W W' : World} (h : TuN w b nb n n' r sa N scap ta T tcap oa ocap W) (hb : Below W.heap.size W W') : TuN w b nb n n' r sa N scap ta T tcap oa ocap W' :=
  ⟨h.kn.kept hb, h.km.kept hb, h.ko.kept hb, h.kt.kept hb, h.n1.below hb, h.n2.below hb, h.be.trans (hb.mono h.be.size)⟩
structure TuE (w : World) (b nb : Nat) (n n' : TNet) (r : Nat) (sa : Option Addr) (N scap : Nat) (ta : Option Addr) (T tcap : Nat) (oa : Option Addr) (ocap : Nat) (a3 a4 a5 a6 : Option Addr) (La Lb : List Sp) (U V : List Int) (W : World) : Prop where
  t : TuN w b nb n n' r sa N scap ta T tcap oa ocap W
  r3 : Row W W.heap.size a3 (spans La)
  r4 : Row W W.heap.size a4 (spans Lb)
  r5 : Row W W.heap.size a5 (ints U)
  r6 : Row W W.heap.size a6 (ints V)
theorem TuE.kept {w : World} {b nb : Nat} {n n' : TNet} {r : Nat} {sa : Option Addr} {N scap : Nat} {ta : Option Addr} {T tcap : Nat} {oa : Option Addr} {ocap : Nat} {a3 a4 a5 a6 : Option Addr} {La Lb : List Sp} {U V : List Int} {W W' : World} (h : TuE w b nb n n' r sa N scap ta T tcap oa ocap a3 a4 a5 a6 La Lb U V W) (hb : Below W.heap.size W W') : TuE w b nb n n' r sa N scap ta T tcap oa ocap a3 a4 a5 a6 La Lb U V W' :=
  ⟨h.t.kept hb, row_keep h.r3 hb, row_keep h.r4 hb, row_keep h.r5 hb, row_keep h.r6 hb⟩
def tgNew (B : Nat) (a b c : Nat) (w : World) (v : Value) : Prop := ∃ p, v = .slice (some ⟨p, 0, none⟩) 1 1 ∧ B ≤ p ∧ Blk w p #[.int .i64 (a : Int), .int .i64 (b : Int), .int .i64 (c : Int)] 75
theorem tgNew_below {B : Nat} {a b c : Nat} {w w' : World} {v : Value} (h : tgNew B a b c w v) (hb : Below w.heap.size w w') : tgNew B a b c w' v := by
  obtain ⟨p, e, hp, hk⟩ := h
  exact ⟨p, e, hp, hk.kept hb⟩
def tgGood (b nb B : Nat) (ov : Value) (aa bb cc qa qb qc : Nat) : Nat → World → Value → Prop
  | 0, _, v => v = .pointer (some ⟨nb + 1 + 1 + 1, 1, none⟩)
  | 1, _, v => v = ov
  | 2, _, v => v = (.func (.func 43) #[] #[.pointer (some ⟨b, 0, none⟩), .pointer (some ⟨nb + 1, 0, none⟩)])
  | 3, _, v => v = .pointer (some ⟨B, 1, none⟩)
  | 4, _, v => v = .int .i64 (bb : Int)
  | 5, _, v => v = .int .i64 (qb : Int)
  | 6, _, v => v = (.func (.func 43) #[] #[.pointer (some ⟨b, 0, none⟩), .pointer (some ⟨nb + 1, 0, none⟩)])
  | 7, _, v => v = .pointer (some ⟨B, 0, none⟩)
  | 8, _, v => v = .int .i64 (aa : Int)
  | 9, _, v => v = .int .i64 (qa : Int)
  | 10, _, v => v = (.func (.func 43) #[] #[.pointer (some ⟨b, 0, none⟩), .pointer (some ⟨nb + 1, 0, none⟩)])
  | 11, _, v => v = .pointer (some ⟨B, 2, none⟩)
  | 12, _, v => v = .int .i64 (cc : Int)
  | 13, _, v => v = .int .i64 (qc : Int)
  | 14, _, v => v = .agg #[.int .i64 (qb : Int), .int .i64 (qa : Int), .int .i64 (qc : Int)]
  | 15, w, v => (tgNew (B + 1) qb qa qc) w v
  | _, _, v => v = .bool true
theorem tgGood_below {b nb B : Nat} {ov : Value} {aa bb cc qa qb qc : Nat} (i : Nat) (w w' : World) (v : Value) (h : (tgGood b nb B ov aa bb cc qa qb qc) i w v) (hb : Below w.heap.size w w') : (tgGood b nb B ov aa bb cc qa qb qc) i w' v := by
  unfold tgGood at h
  split at h <;> first | exact tgNew_below h hb | exact h | (unfold tgGood; split <;> first | exact h | (exfalso; simp_all))

attribute [local go_sem] grows growAt growUpon in
set_option maxRecDepth 100000 in
set_option maxHeartbeats 8000000 in
theorem turned_any (s : TSky) (r : Nat) (la : Option Addr) (ln lc : Nat) (w : World) (hs : SkyOk s) (hr : r ≤ 255) (hln : ln = s.lk.length) (hl : ln ≤ 9223372036854775807) (hrow : Row w w.heap.size la (u8p s.lk)) :
    Calls Try.prog 12 #[.agg (skyC la ln lc s), .int .u8 (r : Int)] w fun e w' => e = .returned (.bool true) ∧ Below w.heap.size w w' := by
  have HOK := hide (skyNet_ok hs)
  have HM := hide (fun (W : World) (hb : Below w.heap.size w W) => made_any s la ln lc W hs hln hl ((hrow.below hb (Nat.le_refl _)).mono hb.size))
  have HLN : Hid ((skyNet s).sp.length = 1 + 2 * skyK s ∧ (skyNet s).ts.length = skyK s) := hide ⟨by simp [skyNet], by simp [skyNet, skyTs_len]⟩
  have hk7 : skyK s ≤ 3 := by unfold skyK; omega
  obtain ⟨i0, hi, hz0, hz1, hz2⟩ := info_asp
  have hmk : ∀ (sn : Nat) w, sn ≤ 7 → (Instr.makeSlice 22 (.int .i64 (sn : Int)) (.int .i64 (sn : Int))).run Try.prog w = .ok (.slice (some ⟨w.heap.size, 0, none⟩) sn sn) (w.alloc (.cells (spans (List.replicate sn (0, 0))).toArray 53)) := fun sn w hsn => by
    rw [← made_spans]
    have := run_make (P := Try.prog) w 22 53 i0 _ under_asps hi hz0 .i64 .i64 (sn : Int) (sn : Int) (by omega) (Int.le_refl _) (by rw [hz2]; omega) (by omega)
    rw [hz1] at this
    simpa using this
  have HMK := hide hmk
  have kt0 := Blk.newAt (W := w.alloc (.cells (skyC la ln lc s) 63)) (k := w.heap.size + 1) (by simp) #[.int .u8 (r : Int)] 5
  clear hs hln hrow hi hz0 hz1 hz2 hmk
  generalize skyNet s = n at *
  generalize skyK s = T at *
  obtain ⟨N, hN⟩ : ∃ N, N = 1 + 2 * T := ⟨_, rfl⟩
  rw [← hN] at HM HLN
  have HN := hide hN
  have hN1 : 1 ≤ N := by omega
  have hN7 : N ≤ 7 := by omega
  clear hN
  have hmk := fun W => HMK.out N W hN7
  unfold skyC at *
  go_enter Try.func12, Try.ntmps12
  go_wp2_with fail
  generalize hW : World.alloc (World.alloc w _) _ = V at *
  have hbV : Below w.heap.size w V := by rw [← hW]; exact ((Below.refl _ _).alloc (Nat.le_refl _) _).alloc (by simp) _
  clear hW
  refine (HM.out V hbV).mono ?_
  rintro e W1 ⟨sg, scap, tv, rfl, os, ot, hb1⟩
  obtain ⟨ta, tcap, htv, htc, htm⟩ := own_shape ot
  subst htv
  have HNET : Hid (NetIn n (some ⟨sg, 0, none⟩) ta N T tcap W1) := hide (by
    obtain ⟨_, _, e2, r2⟩ := own_row ot
    cases e2
    exact ⟨HLN.out.1.symm, HLN.out.2.symm, htc, by unfold maxLen at htm; exact htm, by omega, by omega, own2_row os, r2⟩)
  have hB1 := hbV.trans (hb1.mono hbV.size)
  have kt := kt0.kept hb1
  clear os ot hbV hb1 kt0
  go_wp2_with fail
  generalize hW : World.alloc _ (.cells #[.slice (some ⟨W1.heap.size + 1 + 1, 0, none⟩) N N, .slice none 0 0] 25) = V2
  have hin0 : TuIn W1 W1.heap.size (some ⟨sg, 0, none⟩) N scap ta T tcap (List.replicate N (0, 0)) (.slice none 0 0) 0 [] V2 := by
    rw [← hW]
    refine ⟨(((Blk.newAt rfl _ _).alloc _).alloc _).alloc _, ((Blk.newAt (by simp) _ _).alloc _).alloc _, Blk.newAt (by simp) _ _, ?_, World.ownsRow_nil _ _ _ _, ((((Below.refl _ _).alloc (Nat.le_refl _) _).alloc (by simp) _).alloc (by simp; omega) _).alloc (by simp; omega) _⟩
    refine World.ownsRow.alloc ?_ _
    have := World.ownsRow_lit (base := W1.heap.size) (e := 53) (size := 2) ((W1.alloc (.cells #[.slice (some ⟨sg, 0, none⟩) N scap, .slice ta T tcap] 25)).alloc (.cells #[.int .i64 (N : Int)] 3)) (spans (List.replicate N (0, 0))).toArray N (by simp; omega) (by unfold maxLen; omega) (by simp [spans_length]; omega)
    simpa using this
  clear hW hmk
  obtain ⟨b, hb⟩ : ∃ b, w.heap.size + 1 = b := ⟨_, rfl⟩
  rw [hb] at kt ⊢
  have HKT : Hid (∀ W, Below W1.heap.size W1 W → Blk W b #[.int .u8 (r : Int)] 5) := hide (fun W hb => kt.kept hb)
  generalize hnb : W1.heap.size = nb at *
  have HNB := hide hnb
  have HPW := hide hb
  have HNI : Hid (∀ W, Below nb W1 W → NetIn n (some ⟨sg, 0, none⟩) ta N T tcap W) := hide (fun W hb => HNET.out.below (by rw [HNB.out]; exact hb))
  have HSPL : Hid (TurP n r 0 (List.replicate N (0, 0))) := hide ⟨by simp [HLN.out.1], fun j hj => by omega⟩
  clear hb kt hnb
  go_loopw [38] (fun i wr => ∃ (k : Nat) (c : List Sp), k ≤ N ∧ i = .int .i64 (k : Int) ∧ TurP n r k c ∧ TuIn W1 nb (some ⟨sg, 0, none⟩) N scap ta T tcap c (.slice none 0 0) 0 [] wr) (fun i _ => N - (intOf i).toNat)
  case atStart => exact ⟨0, _, Nat.zero_le _, rfl, HSPL.out, hin0⟩
  case round =>
    clear hin0 HSPL
    obtain ⟨k, c, hk, rfl, hp, hin⟩ := hrel
    by_cases hlt : k < N
    · obtain ⟨sb, soff, hsa, hsb, hcell⟩ := (HNI.out _ hin.be).rs.span (by rw [HLN.out.1]; omega)
      cases hsa
      obtain ⟨x0, x1⟩ := hcell k (by rw [HLN.out.1]; exact hlt)
      simp only [Nat.zero_add] at x0 x1
      obtain ⟨n0, n1, _⟩ := hin.kn.two
      obtain ⟨o0, o1, _⟩ := hin.ko.two
      have ln := hin.kn.lt
      have lo := hin.ko.lt
      obtain ⟨q, hq⟩ : ∃ q, q = toQ N r k := ⟨_, rfl⟩
      have hqN : q < N := by rw [hq]; exact toQ_lt (by omega)
      obtain ⟨c0, c1, f0, f1⟩ := own2_cell hin.oo hqN
      have KT := HKT.out _ hin.be
      have KM := hin.km
      have TO := fun (W : World) (h1 : Blk W b #[.int .u8 (r : Int)] 5) (h2 : Blk W (nb + 1) #[.int .i64 (N : Int)] 3) => hq ▸ to_any N r k b (nb + 1) W (by omega) (by omega) hr (by omega) h1 h2
      have HP : Hid (TurP n r (k + 1) (c.set q (los n.sp k, his n.sp k))) := hide (by
        have := hp.set (k := k) (by rw [HLN.out.1]; exact hlt)
        rw [HLN.out.1, ← hq] at this
        exact this)
      have HIQ := hide hin
      have hgw : nb + 2 < wr.heap.size := by omega
      clear hin hp hcell hq
      generalize los n.sp k = x at *
      generalize his n.sp k = y at *
      go_wp2_with fail
      have w5 : (k : Int) < N := by omega
      have w6 : (q : Int) < N := by omega
      refine wp_region_still_tail 11 (by kernel_rfl) (by kernel_rfl) ?_
      simp only [List.take_succ_cons, List.take_zero, List.drop_succ_cons, List.drop_zero]
      repeat still_step
      still_call (TO _ KT KM)
      repeat still_step
      refine wpStill_nil ?_
      go_wp2_with fail
      exact ⟨⟨k + 1, _, by omega, by go_num, HP.out, (HIQ.out.setS q x y).drewN 1⟩, by simp [intOf]; omega⟩
    · have hkN : N = k := by omega
      subst hkN
      have hc : c = (turnN n r).sp := TurP.full (by rw [HLN.out.1]; exact hp)
      obtain ⟨n0, n1, _⟩ := hin.kn.two
      have ln := hin.kn.lt
      have HIQ := hide hin
      rw [hc] at HIQ
      clear hin hp hc
      go_wp2_with fail
      go_loopw [10] (fun i wr => ∃ (k j : Nat) (x : Int) (ov : Value), j + k = T ∧ i = .int .i64 x ∧ x = (j : Int) - 1 ∧ TuIn W1 nb (some ⟨sg, 0, none⟩) N scap ta T tcap (turnN n r).sp ov k ((turnN n r).ts.take k) wr) (fun i _ => (intOf i + 1).toNat)
      case atStart => exact ⟨0, T, _, _, rfl, rfl, rfl, HIQ.out⟩
      case round =>
        clear HIQ n0 n1 ln
        obtain ⟨k, j, x, ov, hjk, rfl, hx, hin⟩ := hrel
        match j with
        | 0 =>
          have hxx : x = -1 := by omega
          subst hxx
          have hkT : T = k := by omega
          have hke : (turnN n r).ts.take k = (turnN n r).ts := List.take_of_length_le (by have := HLN.out.2; simp [turnN]; omega)
          rw [hke] at hin
          have hlk : (turnN n r).ts.length = k := by have := HLN.out.2; simp [turnN]; omega
          have HKT3 := hide (And.intro hkT hlk)
          obtain ⟨oa, ocap, hov, hoc, hocm⟩ := own_shape hin.oot
          subst hov
          have hbw : Below w.heap.size w wr := by rw [← HNB.out] at hin; exact hB1.trans (hin.be.mono hB1.size)
          have hin2 : TuN w b nb n (turnN n r) r (some ⟨sg, 0, none⟩) N scap ta T tcap oa ocap wr := by
            obtain ⟨_, _, e2, r2⟩ := own_row hin.oot
            cases e2
            subst hkT
            exact ⟨hin.kn, hin.km, hin.ko, HKT.out _ hin.be, HNI.out _ hin.be, ⟨by have := HLN.out.1; simp [turnN]; omega, hlk.symm, hoc, by unfold maxLen at hocm; exact hocm, by omega, by omega, own2_row hin.oo, r2⟩, hbw⟩
          have HTL : Hid (_ ∧ _ ∧ _ ∧ _ ∧ _ ∧ _ ∧ _ ∧ _ ∧ _) := hide (have t := turn_law HOK.out r; ⟨t.e, t.g, t.la, t.lu, t.ck, t.cs, t.sq, t.su, t.l1⟩)
          rw [HLN.out.1] at HTL
          clear hin hjk hx hlk hke HKT HNI HKT3 HNET HLN HOK hbw hoc hocm hkT HM HMK hB1
          generalize turnN n r = n' at *
          obtain ⟨n0, n1, _⟩ := hin2.kn.two
          obtain ⟨o0, o1, _⟩ := hin2.ko.two
          have ln := hin2.kn.lt
          have lo := hin2.ko.lt
          go_wp2_with fail
          refine (squares_any n (some ⟨sg, 0, none⟩) ta N scap T tcap _ hin2.n1).mono ?_
          rintro e W3 ⟨v3, rfl, hv3, hb3⟩
          obtain ⟨al3, cl3, e3, r3⟩ := own_row hv3
          subst e3
          have hin3 := hin2.kept hb3
          clear hin2 hb3 hv3 n0 n1 o0 o1 ln lo
          obtain ⟨n0, n1, _⟩ := hin3.kn.two
          obtain ⟨o0, o1, _⟩ := hin3.ko.two
          have ln := hin3.kn.lt
          have lo := hin3.ko.lt
          go_wp2_with fail
          refine (squares_any n' (some ⟨nb + 2, 0, none⟩) oa N N T ocap _ hin3.n2).mono ?_
          rintro e W4 ⟨v4, rfl, hv4, hb4⟩
          obtain ⟨al4, cl4, e4, r4⟩ := own_row hv4
          subst e4
          have hin4 := hin3.kept hb4
          have r34 := row_keep r3 hb4
          clear hin3 hb4 hv4 r3 n0 n1 o0 o1 ln lo
          obtain ⟨n0, n1, _⟩ := hin4.kn.two
          obtain ⟨o0, o1, _⟩ := hin4.ko.two
          have ln := hin4.kn.lt
          have lo := hin4.ko.lt
          go_wp2_with fail
          refine (suspects_any n (some ⟨sg, 0, none⟩) ta N scap T tcap _ hin4.n1).mono ?_
          rintro e W5 ⟨v5, rfl, hv5, hb5⟩
          obtain ⟨al5, cl5, e5, r5⟩ := own_row hv5
          subst e5
          have hin5 := hin4.kept hb5
          have r35 := row_keep r34 hb5
          have r45 := row_keep r4 hb5
          clear hin4 hb5 hv5 r34 r4 n0 n1 o0 o1 ln lo
          obtain ⟨n0, n1, _⟩ := hin5.kn.two
          obtain ⟨o0, o1, _⟩ := hin5.ko.two
          have ln := hin5.kn.lt
          have lo := hin5.ko.lt
          go_wp2_with fail
          refine (suspects_any n' (some ⟨nb + 2, 0, none⟩) oa N N T ocap _ hin5.n2).mono ?_
          rintro e W6 ⟨v6, rfl, hv6, hb6⟩
          obtain ⟨al6, cl6, e6, r6⟩ := own_row hv6
          subst e6
          have hin6 := hin5.kept hb6
          have r36 := row_keep r35 hb6
          have r46 := row_keep r45 hb6
          have r56 := row_keep r5 hb6
          clear hin5 hb6 hv6 r35 r45 r5 n0 n1 o0 o1 ln lo
          obtain ⟨he, hg, hla, hlu, hck, hcs, hsq, hsu, hl1⟩ := HTL.out
          rw [he, hg, hla, hlu]
          have HSQ := hide hsq
          have HSU := hide hsu
          have HLA := hide hla
          have HLU := hide hlu
          have HCK : Hid (∀ W, Below W6.heap.size W6 W → Calls Try.prog 19 #[netV (some ⟨nb + 2, 0, none⟩) oa N N T ocap] W fun e w' => ∃ v, e = .returned v ∧ v = .int .i64 0 ∧ Below W.heap.size W w') := hide (fun W hb => by
            have h2 := hin6.n2.below hb
            exact (checkF_any n' _ _ N N T ocap W h2.hsn h2.htn h2.hl h2.hl2 h2.htc h2.htc2 h2.rs h2.rt).mono fun e w' h => ⟨_, h.1, by rw [hck], h.2⟩)
          generalize (sqR n).1 = La at *
          generalize (sqR n').1 = Lb at *
          generalize (susR n).1 = U at *
          generalize (susR n').1 = V at *
          generalize (sqR n).2 = E at *
          generalize (susR n).2 = G at *
          clear he hg hla hlu hck hsq hsu HTL
          have hin6 : TuE w b nb n n' r (some ⟨sg, 0, none⟩) N scap ta T tcap oa ocap al3 al4 al5 al6 La Lb U V W6 := ⟨hin6, r36, r46, r56, r6⟩
          obtain ⟨o0, o1, _⟩ := hin6.t.ko.two
          have lo := hin6.t.ko.lt
          obtain ⟨n0, n1, _⟩ := hin6.t.kn.two
          have ln := hin6.t.kn.lt
          clear r36 r46 r56 r6
          rcases hcs with ⟨rfl, hm⟩ | ⟨rfl, hm⟩
          · skip
            rw [hm]
            have HME := hide hm
            clear hm
            go_wp2_with fail
            refine (HCK.out _ (Below.refl _ _)).mono ?_
            rintro e W7 ⟨v, rfl, rfl, hb7⟩
            have hin7 := hin6.kept hb7
            clear hin6 hb7 HCK n0 n1 o0 o1 ln lo
            obtain ⟨m0, _⟩ := hin7.t.km.one
            have lm := hin7.t.km.lt
            go_wp2_with fail
            clear m0 lm
            go_loopw [143] (fun i wr => ∃ k : Nat, k ≤ N ∧ i = .int .i64 (k : Int) ∧ TuE w b nb n n' r (some ⟨sg, 0, none⟩) N scap ta T tcap oa ocap al3 al4 al5 al6 La Lb U V wr) (fun i _ => N - (intOf i).toNat)
            case atStart => exact ⟨0, Nat.zero_le _, rfl, hin7⟩
            case round =>
              clear hin7
              obtain ⟨k, hk, rfl, hin⟩ := hrel
              by_cases hlt : k < N
              · skip
                obtain ⟨hkN, hget⟩ := HSQ.out k (by rw [HME.out]; exact hlt)
                obtain ⟨q, hq⟩ : ∃ q, q = toQ N r k := ⟨_, rfl⟩
                have hqN : q < N := by rw [hq]; exact toQ_lt (by omega)
                rw [← hq] at hget
                obtain ⟨b3, f3, ha3, hb3, hc3⟩ := hin.r3.span (by rw [HME.out]; omega)
                obtain ⟨b4, f4, ha4, hb4, hc4⟩ := hin.r4.span (by rw [HLA.out, HME.out]; omega)
                obtain ⟨x0, x1⟩ := hc3 k (by rw [HME.out]; exact hlt)
                obtain ⟨y0, y1⟩ := hc4 q (by rw [HLA.out, HME.out]; exact hqN)
                have e0 : los Lb q = los La k := congrArg Prod.fst hget
                have e1 : his Lb q = his La k := congrArg Prod.snd hget
                rw [e0] at y0
                rw [e1] at y1
                have KT := hin.t.kt
                have KM := hin.t.km
                have TQ := fun (W : World) (h1 : Blk W b #[.int .u8 (r : Int)] 5) (h2 : Blk W (nb + 1) #[.int .i64 (N : Int)] 3) => hq ▸ to_any N r k b (nb + 1) W (by omega) (by omega) hr (by omega) h1 h2
                have HIN := hide hin
                clear hin hget hq hc3 hc4 e0 e1
                subst ha3 ha4
                generalize los La k = xlo at *
                generalize his La k = xhi at *
                go_wp2_with fail
                have i1 : (k : Int) < N := by omega
                have i2 : (q : Int) < N := by omega
                refine wp_region_still_lit (by kernel_rfl) (by kernel_rfl) ?_
                repeat still_step
                still_call (TQ _ KT KM)
                repeat still_step
                refine wpStill_nil ?_
                go_wp2_with fail
                exact ⟨⟨k + 1, by omega, by go_num, HIN.out.kept (below_drewN (Below.refl _ _) 1)⟩, by simp [intOf]; omega⟩
              · have hkn : N = k := by omega
                have HIN := hide hin
                clear hkn
                clear hin
                go_wp2_with fail
                go_loopw [160] (fun i wr => ∃ j : Nat, j ≤ U.length ∧ i = .int .i64 (j : Int) ∧ TuE w b nb n n' r (some ⟨sg, 0, none⟩) N scap ta T tcap oa ocap al3 al4 al5 al6 La Lb U V wr) (fun i _ => U.length - (intOf i).toNat)
                case atStart => exact ⟨0, Nat.zero_le _, rfl, HIN.out⟩
                case round =>
                  clear HIN
                  obtain ⟨j, hj, rfl, hin⟩ := hrel
                  by_cases hlu : j < U.length
                  · obtain ⟨q0, hq0, hu, hmem⟩ := HSU.out (iat U j) (by rw [iat_eq _ _ hlu]; exact List.getElem_mem _)
                    obtain ⟨q, hq⟩ : ∃ q, q = toQ N r q0 := ⟨_, rfl⟩
                    have TQ := fun (W : World) (h1 : Blk W b #[.int .u8 (r : Int)] 5) (h2 : Blk W (nb + 1) #[.int .i64 (N : Int)] 3) => hq ▸ to_any N r q0 b (nb + 1) W (by omega) (by omega) hr (by omega) h1 h2
                    rw [← hq] at hmem
                    obtain ⟨b5, f5, ha5, hb5, hc5⟩ := hin.r5.int (by omega)
                    have x0 := hc5 j hlu
                    rw [hu] at x0
                    have HMEM := hide hmem
                    have HIN := hide hin
                    have i1 : (j : Int) < U.length := by omega
                    clear hin hc5 hmem hu hq
                    subst ha5
                    go_wp2_with fail
                    go_loopw [23, 166] (fun f i wr => ∃ k : Nat, k ≤ U.length ∧ i = .int .i64 (k : Int) ∧ f = .bool (decide ((q : Int) ∈ V.take k)) ∧ TuE w b nb n n' r (some ⟨sg, 0, none⟩) N scap ta T tcap oa ocap al3 al4 (some ⟨b5, f5, none⟩) al6 La Lb U V wr) (fun _ i _ => U.length - (intOf i).toNat)
                    case atStart => exact ⟨0, Nat.zero_le _, rfl, by simp, HIN.out⟩
                    case round =>
                      clear HIN x0
                      obtain ⟨k, hk, rfl, hf, hin⟩ := hrel
                      by_cases hlv : k < U.length
                      · have hlv2 : k < V.length := by rw [HLU.out]; exact hlv
                        obtain ⟨b6, f6, ha6, hb6, hc6⟩ := hin.r6.int (by omega)
                        have z0 := hc6 k hlv2
                        obtain ⟨p, hp⟩ : ∃ p, iat V k = p := ⟨_, rfl⟩
                        have htk : V.take (k + 1) = V.take k ++ [p] := by rw [List.take_succ_eq_append_getElem hlv2, ← hp, iat_eq _ _ hlv2]
                        have hcase : (decide ((q : Int) ∈ V.take k) = true ∧ Hid (decide ((q : Int) ∈ V.take (k + 1)) = true)) ∨ (decide ((q : Int) ∈ V.take k) = false ∧ p = (q : Int) ∧ Hid (decide ((q : Int) ∈ V.take (k + 1)) = true)) ∨ (decide ((q : Int) ∈ V.take k) = false ∧ p ≠ (q : Int) ∧ Hid (decide ((q : Int) ∈ V.take (k + 1)) = false)) := by
                          rw [htk]
                          by_cases h1 : (q : Int) ∈ V.take k
                          · exact .inl ⟨decide_eq_true h1, hide (by simp [h1])⟩
                          · by_cases h2 : p = (q : Int)
                            · exact .inr (.inl ⟨decide_eq_false h1, h2, hide (by simp [h2])⟩)
                            · exact .inr (.inr ⟨decide_eq_false h1, h2, hide (by simp [h1, Ne.symm h2])⟩)
                        rw [hp] at z0
                        have KT := hin.t.kt
                        have KM := hin.t.km
                        have HIN := hide hin
                        have hq00 : (0 : Int) ≤ (q0 : Int) := Int.natCast_nonneg _
                        have i2 : (k : Int) < U.length := by omega
                        clear hin hc6 hp htk hlv2
                        subst ha6
                        generalize hfb : decide ((q : Int) ∈ V.take k) = fb at *
                        clear hfb
                        rcases hcase with ⟨rfl, HF⟩ | ⟨rfl, heq, HF⟩ | ⟨rfl, hneq, HF⟩
                        · subst hf
                          go_wp2_with fail
                          exact ⟨⟨k + 1, by omega, by go_num, by rw [HF.out], HIN.out⟩, by simp [intOf]; omega⟩
                        · subst hf heq
                          go_wp2_with fail
                          refine (TQ _ KT KM).mono ?_
                          rintro e W8 ⟨rfl, rfl⟩
                          go_wp2_with fail
                          exact ⟨⟨k + 1, by omega, by go_num, by rw [HF.out], HIN.out⟩, by simp [intOf]; omega⟩
                        · subst hf
                          go_wp2_with fail
                          refine (TQ _ KT KM).mono ?_
                          rintro e W8 ⟨rfl, rfl⟩
                          go_wp2_with fail
                          exact ⟨⟨k + 1, by omega, by go_num, by rw [HF.out, beq_eq_false_iff_ne.2 hneq], HIN.out⟩, by simp [intOf]; omega⟩
                      · have hkn2 : k = V.length := by rw [HLU.out]; omega
                        have hft : decide ((q : Int) ∈ V.take k) = true := decide_eq_true (by rw [hkn2, List.take_length]; exact HMEM.out)
                        rw [hft] at hf
                        subst hf
                        have HIN := hide hin
                        clear hin hkn2 hft
                        go_wp2_with fail
                        exact ⟨⟨j + 1, by omega, by go_num, HIN.out⟩, by simp [intOf]; omega⟩
                  · have hjn : j = U.length := by omega
                    have HIN := hide hin
                    clear hin hjn
                    go_wp2_with fail
                    refine (works_any _).mono ?_
                    rintro e W9 ⟨rfl, hb9⟩
                    go_wp2_with fail
                    go_ret
                    exact ⟨rfl, HIN.out.t.be.trans (hb9.mono HIN.out.t.be.size)⟩
          · skip
            rw [hm]
            have HME := hide hm
            clear hm
            go_wp2_with fail
            refine (HCK.out _ (Below.refl _ _)).mono ?_
            rintro e W7 ⟨v, rfl, rfl, hb7⟩
            have hin7 := hin6.kept hb7
            clear hin6 hb7 HCK n0 n1 o0 o1 ln lo
            obtain ⟨m0, _⟩ := hin7.t.km.one
            have lm := hin7.t.km.lt
            go_wp2_with fail
            clear m0 lm
            go_loopw [143] (fun i wr => ∃ k : Nat, k ≤ 0 ∧ i = .int .i64 (k : Int) ∧ TuE w b nb n n' r (some ⟨sg, 0, none⟩) N scap ta T tcap oa ocap al3 al4 al5 al6 La Lb U V wr) (fun i _ => 0 - (intOf i).toNat)
            case atStart => exact ⟨0, Nat.zero_le _, rfl, hin7⟩
            case round =>
              clear hin7
              obtain ⟨k, hk, rfl, hin⟩ := hrel
              by_cases hlt : k < 0
              · skip
                exact absurd hlt (Nat.not_lt_zero _)
              · have hkn : 0 = k := by omega
                have HIN := hide hin
                clear hkn
                clear hin
                go_wp2_with fail
                go_loopw [160] (fun i wr => ∃ j : Nat, j ≤ U.length ∧ i = .int .i64 (j : Int) ∧ TuE w b nb n n' r (some ⟨sg, 0, none⟩) N scap ta T tcap oa ocap al3 al4 al5 al6 La Lb U V wr) (fun i _ => U.length - (intOf i).toNat)
                case atStart => exact ⟨0, Nat.zero_le _, rfl, HIN.out⟩
                case round =>
                  clear HIN
                  obtain ⟨j, hj, rfl, hin⟩ := hrel
                  by_cases hlu : j < U.length
                  · obtain ⟨q0, hq0, hu, hmem⟩ := HSU.out (iat U j) (by rw [iat_eq _ _ hlu]; exact List.getElem_mem _)
                    obtain ⟨q, hq⟩ : ∃ q, q = toQ N r q0 := ⟨_, rfl⟩
                    have TQ := fun (W : World) (h1 : Blk W b #[.int .u8 (r : Int)] 5) (h2 : Blk W (nb + 1) #[.int .i64 (N : Int)] 3) => hq ▸ to_any N r q0 b (nb + 1) W (by omega) (by omega) hr (by omega) h1 h2
                    rw [← hq] at hmem
                    obtain ⟨b5, f5, ha5, hb5, hc5⟩ := hin.r5.int (by omega)
                    have x0 := hc5 j hlu
                    rw [hu] at x0
                    have HMEM := hide hmem
                    have HIN := hide hin
                    have i1 : (j : Int) < U.length := by omega
                    clear hin hc5 hmem hu hq
                    subst ha5
                    go_wp2_with fail
                    go_loopw [23, 166] (fun f i wr => ∃ k : Nat, k ≤ U.length ∧ i = .int .i64 (k : Int) ∧ f = .bool (decide ((q : Int) ∈ V.take k)) ∧ TuE w b nb n n' r (some ⟨sg, 0, none⟩) N scap ta T tcap oa ocap al3 al4 (some ⟨b5, f5, none⟩) al6 La Lb U V wr) (fun _ i _ => U.length - (intOf i).toNat)
                    case atStart => exact ⟨0, Nat.zero_le _, rfl, by simp, HIN.out⟩
                    case round =>
                      clear HIN x0
                      obtain ⟨k, hk, rfl, hf, hin⟩ := hrel
                      by_cases hlv : k < U.length
                      · have hlv2 : k < V.length := by rw [HLU.out]; exact hlv
                        obtain ⟨b6, f6, ha6, hb6, hc6⟩ := hin.r6.int (by omega)
                        have z0 := hc6 k hlv2
                        obtain ⟨p, hp⟩ : ∃ p, iat V k = p := ⟨_, rfl⟩
                        have htk : V.take (k + 1) = V.take k ++ [p] := by rw [List.take_succ_eq_append_getElem hlv2, ← hp, iat_eq _ _ hlv2]
                        have hcase : (decide ((q : Int) ∈ V.take k) = true ∧ Hid (decide ((q : Int) ∈ V.take (k + 1)) = true)) ∨ (decide ((q : Int) ∈ V.take k) = false ∧ p = (q : Int) ∧ Hid (decide ((q : Int) ∈ V.take (k + 1)) = true)) ∨ (decide ((q : Int) ∈ V.take k) = false ∧ p ≠ (q : Int) ∧ Hid (decide ((q : Int) ∈ V.take (k + 1)) = false)) := by
                          rw [htk]
                          by_cases h1 : (q : Int) ∈ V.take k
                          · exact .inl ⟨decide_eq_true h1, hide (by simp [h1])⟩
                          · by_cases h2 : p = (q : Int)
                            · exact .inr (.inl ⟨decide_eq_false h1, h2, hide (by simp [h2])⟩)
                            · exact .inr (.inr ⟨decide_eq_false h1, h2, hide (by simp [h1, Ne.symm h2])⟩)
                        rw [hp] at z0
                        have KT := hin.t.kt
                        have KM := hin.t.km
                        have HIN := hide hin
                        have hq00 : (0 : Int) ≤ (q0 : Int) := Int.natCast_nonneg _
                        have i2 : (k : Int) < U.length := by omega
                        clear hin hc6 hp htk hlv2
                        subst ha6
                        generalize hfb : decide ((q : Int) ∈ V.take k) = fb at *
                        clear hfb
                        rcases hcase with ⟨rfl, HF⟩ | ⟨rfl, heq, HF⟩ | ⟨rfl, hneq, HF⟩
                        · subst hf
                          go_wp2_with fail
                          exact ⟨⟨k + 1, by omega, by go_num, by rw [HF.out], HIN.out⟩, by simp [intOf]; omega⟩
                        · subst hf heq
                          go_wp2_with fail
                          refine (TQ _ KT KM).mono ?_
                          rintro e W8 ⟨rfl, rfl⟩
                          go_wp2_with fail
                          exact ⟨⟨k + 1, by omega, by go_num, by rw [HF.out], HIN.out⟩, by simp [intOf]; omega⟩
                        · subst hf
                          go_wp2_with fail
                          refine (TQ _ KT KM).mono ?_
                          rintro e W8 ⟨rfl, rfl⟩
                          go_wp2_with fail
                          exact ⟨⟨k + 1, by omega, by go_num, by rw [HF.out, beq_eq_false_iff_ne.2 hneq], HIN.out⟩, by simp [intOf]; omega⟩
                      · have hkn2 : k = V.length := by rw [HLU.out]; omega
                        have hft : decide ((q : Int) ∈ V.take k) = true := decide_eq_true (by rw [hkn2, List.take_length]; exact HMEM.out)
                        rw [hft] at hf
                        subst hf
                        have HIN := hide hin
                        clear hin hkn2 hft
                        go_wp2_with fail
                        exact ⟨⟨j + 1, by omega, by go_num, HIN.out⟩, by simp [intOf]; omega⟩
                  · have hjn : j = U.length := by omega
                    have HIN := hide hin
                    clear hin hjn
                    go_wp2_with fail
                    refine (works_any _).mono ?_
                    rintro e W9 ⟨rfl, hb9⟩
                    go_wp2_with fail
                    go_ret
                    exact ⟨rfl, HIN.out.t.be.trans (hb9.mono HIN.out.t.be.size)⟩
        | p + 1 =>
          have hxx : x = (p : Int) := by omega
          subst hxx
          obtain ⟨n0, n1, _⟩ := hin.kn.two
          have ln := hin.kn.lt
          have lo := hin.ko.lt
          obtain ⟨tb, toff, hta, htb, hcell⟩ := (HNI.out _ hin.be).rt.tri (by rw [HLN.out.2]; omega)
          obtain ⟨t0, t1, t2⟩ := hcell p (by rw [HLN.out.2]; omega)
          obtain ⟨aa, bb, cc, htr, ha, hb, hc⟩ := turn_tri HOK.out (p := p) (by rw [HLN.out.2]; omega)
          have HTK := hide (turn_take (r := r) (p := p) (k := k) (by rw [HLN.out.2]; omega) htr)
          rw [htr] at t0 t1 t2
          rw [HLN.out.1] at ha hb hc HTK
          dsimp only at t0 t1 t2
          have TA := fun (W : World) (h1 : Blk W b #[.int .u8 (r : Int)] 5) (h2 : Blk W (nb + 1) #[.int .i64 (N : Int)] 3) => to_any N r aa b (nb + 1) W (by omega) (by omega) hr (by omega) h1 h2
          have TB := fun (W : World) (h1 : Blk W b #[.int .u8 (r : Int)] 5) (h2 : Blk W (nb + 1) #[.int .i64 (N : Int)] 3) => to_any N r bb b (nb + 1) W (by omega) (by omega) hr (by omega) h1 h2
          have TC := fun (W : World) (h1 : Blk W b #[.int .u8 (r : Int)] 5) (h2 : Blk W (nb + 1) #[.int .i64 (N : Int)] 3) => to_any N r cc b (nb + 1) W (by omega) (by omega) hr (by omega) h1 h2
          generalize toQ N r aa = qa at *
          generalize toQ N r bb = qb at *
          generalize toQ N r cc = qc at *
          have i1 : (p : Int) < T := by omega
          have hpk : p + 1 + k = T := hjk
          have HJK := hide hjk
          have HIQ := hide hin
          subst hta
          clear hcell htr hin hjk hx
          go_wp2_with fail
          have kb := Blk.new wr #[.int .i64 (aa : Int), .int .i64 (bb : Int), .int .i64 (cc : Int)] 75
          have hB1 := (Below.refl wr.heap.size wr).alloc (Nat.le_refl _) (.cells #[.int .i64 (aa : Int), .int .i64 (bb : Int), .int .i64 (cc : Int)] 75)
          have hin1 := HIQ.out.kept hB1
          obtain ⟨B, hB⟩ : ∃ B, wr.heap.size = B := ⟨_, rfl⟩
          rw [hB] at kb ⊢
          have hsB : B < (wr.alloc (.cells #[.int .i64 (aa : Int), .int .i64 (bb : Int), .int .i64 (cc : Int)] 75)).heap.size := kb.lt
          have hnB : nb + 3 < B := by omega
          generalize wr.alloc (.cells #[.int .i64 (aa : Int), .int .i64 (bb : Int), .int .i64 (cc : Int)] 75) = wr1 at *
          have HC : Hid (∀ W, Below wr1.heap.size wr1 W → TuIn W1 nb (some ⟨sg, 0, none⟩) N scap (some ⟨tb, toff, none⟩) T tcap (turnN n r).sp ov k ((turnN n r).ts.take k) W ∧ (W.cell? ⟨B, 0, none⟩ = some (.int .i64 (aa : Int)) ∧ W.cell? ⟨B, 1, none⟩ = some (.int .i64 (bb : Int)) ∧ W.cell? ⟨B, 2, none⟩ = some (.int .i64 (cc : Int))) ∧ Blk W b #[.int .u8 (r : Int)] 5) := hide (fun W hb => by
            have h1 := hin1.kept hb
            have k1 := kb.kept hb
            exact ⟨h1, ⟨k1.three.1, k1.three.2.1, k1.three.2.2.1⟩, HKT.out _ h1.be⟩)
          clear hin1 kb hB1 hB n0 n1 ln lo t0 t1 t2 htb
          refine wp_region_monoF wr1 _ 16 (tgGood b nb B ov aa bb cc qa qb qc) (n := 187) (by kernel_rfl) (by decide +kernel) rfl tgGood_below ?steps ?_
          case steps =>
            refine ⟨?_, ?_, ?_, ?_, ?_, ?_, ?_, ?_, ?_, ?_, ?_, ?_, ?_, ?_, ?_, ?_, trivial⟩
            · intro ac w' h
              have e0 : ac.tmps.getD 8 undef = .pointer (some ⟨nb + 1 + 1 + 1, 0, none⟩) := h.old 8 rfl
              refine ⟨wanted_none rfl, ?_⟩
              simp at e0
              clear h
              go_simp
              exact ⟨Below.refl _ _, rfl⟩
            · intro ac w' h
              have e0 : ac.tmps.getD 66 undef = .pointer (some ⟨nb + 1 + 1 + 1, 1, none⟩) := h.val 0 66 rfl rfl
              refine ⟨wanted_none rfl, ?_⟩
              simp at e0
              have q := (HC.out w' h.be).1.ko.two
              clear h
              go_simp
              exact ⟨Below.refl _ _, rfl⟩
            · intro ac w' h
              have e0 : ac.tmps.getD 7 undef = (.func (.func 43) #[] #[.pointer (some ⟨b, 0, none⟩), .pointer (some ⟨nb + 1, 0, none⟩)]) := h.old 7 rfl
              refine ⟨wanted_none rfl, ?_⟩
              simp at e0
              clear h
              go_simp
              exact ⟨Below.refl _ _, rfl⟩
            · intro ac w' h
              have e0 : ac.tmps.getD 11 undef = .pointer (some ⟨B, 0, none⟩) := h.old 11 rfl
              refine ⟨wanted_none rfl, ?_⟩
              simp at e0
              clear h
              go_simp
              exact ⟨Below.refl _ _, rfl⟩
            · intro ac w' h
              have e0 : ac.tmps.getD 69 undef = .pointer (some ⟨B, 1, none⟩) := h.val 3 69 rfl rfl
              refine ⟨wanted_none rfl, ?_⟩
              simp at e0
              obtain ⟨q0, q1, q2⟩ := (HC.out w' h.be).2.1
              clear h
              go_simp
              exact ⟨Below.refl _ _, rfl⟩
            · intro ac w' h
              have e0 : ac.tmps.getD 68 undef = (.func (.func 43) #[] #[.pointer (some ⟨b, 0, none⟩), .pointer (some ⟨nb + 1, 0, none⟩)]) := h.val 2 68 rfl rfl
              have e1 : ac.tmps.getD 70 undef = .int .i64 (bb : Int) := h.val 4 70 rfl rfl
              refine ⟨wanted_none rfl, ?_⟩
              simp at e0 e1
              have TO := TB w' (HC.out w' h.be).2.2 (HC.out w' h.be).1.km
              clear h
              go_simp
              exact TO.mono fun e w'' ⟨he, hw⟩ => ⟨_, he, by subst hw; exact Below.refl _ _, rfl⟩
            · intro ac w' h
              have e0 : ac.tmps.getD 7 undef = (.func (.func 43) #[] #[.pointer (some ⟨b, 0, none⟩), .pointer (some ⟨nb + 1, 0, none⟩)]) := h.old 7 rfl
              refine ⟨wanted_none rfl, ?_⟩
              simp at e0
              clear h
              go_simp
              exact ⟨Below.refl _ _, rfl⟩
            · intro ac w' h
              have e0 : ac.tmps.getD 11 undef = .pointer (some ⟨B, 0, none⟩) := h.old 11 rfl
              refine ⟨wanted_none rfl, ?_⟩
              simp at e0
              clear h
              go_simp
              exact ⟨Below.refl _ _, rfl⟩
            · intro ac w' h
              have e0 : ac.tmps.getD 73 undef = .pointer (some ⟨B, 0, none⟩) := h.val 7 73 rfl rfl
              refine ⟨wanted_none rfl, ?_⟩
              simp at e0
              obtain ⟨q0, q1, q2⟩ := (HC.out w' h.be).2.1
              clear h
              go_simp
              exact ⟨Below.refl _ _, rfl⟩
            · intro ac w' h
              have e0 : ac.tmps.getD 72 undef = (.func (.func 43) #[] #[.pointer (some ⟨b, 0, none⟩), .pointer (some ⟨nb + 1, 0, none⟩)]) := h.val 6 72 rfl rfl
              have e1 : ac.tmps.getD 74 undef = .int .i64 (aa : Int) := h.val 8 74 rfl rfl
              refine ⟨wanted_none rfl, ?_⟩
              simp at e0 e1
              have TO := TA w' (HC.out w' h.be).2.2 (HC.out w' h.be).1.km
              clear h
              go_simp
              exact TO.mono fun e w'' ⟨he, hw⟩ => ⟨_, he, by subst hw; exact Below.refl _ _, rfl⟩
            · intro ac w' h
              have e0 : ac.tmps.getD 7 undef = (.func (.func 43) #[] #[.pointer (some ⟨b, 0, none⟩), .pointer (some ⟨nb + 1, 0, none⟩)]) := h.old 7 rfl
              refine ⟨wanted_none rfl, ?_⟩
              simp at e0
              clear h
              go_simp
              exact ⟨Below.refl _ _, rfl⟩
            · intro ac w' h
              have e0 : ac.tmps.getD 11 undef = .pointer (some ⟨B, 0, none⟩) := h.old 11 rfl
              refine ⟨wanted_none rfl, ?_⟩
              simp at e0
              clear h
              go_simp
              exact ⟨Below.refl _ _, rfl⟩
            · intro ac w' h
              have e0 : ac.tmps.getD 77 undef = .pointer (some ⟨B, 2, none⟩) := h.val 11 77 rfl rfl
              refine ⟨wanted_none rfl, ?_⟩
              simp at e0
              obtain ⟨q0, q1, q2⟩ := (HC.out w' h.be).2.1
              clear h
              go_simp
              exact ⟨Below.refl _ _, rfl⟩
            · intro ac w' h
              have e0 : ac.tmps.getD 76 undef = (.func (.func 43) #[] #[.pointer (some ⟨b, 0, none⟩), .pointer (some ⟨nb + 1, 0, none⟩)]) := h.val 10 76 rfl rfl
              have e1 : ac.tmps.getD 78 undef = .int .i64 (cc : Int) := h.val 12 78 rfl rfl
              refine ⟨wanted_none rfl, ?_⟩
              simp at e0 e1
              have TO := TC w' (HC.out w' h.be).2.2 (HC.out w' h.be).1.km
              clear h
              go_simp
              exact TO.mono fun e w'' ⟨he, hw⟩ => ⟨_, he, by subst hw; exact Below.refl _ _, rfl⟩
            · intro ac w' h
              have e0 : ac.tmps.getD 71 undef = .int .i64 (qb : Int) := h.val 5 71 rfl rfl
              have e1 : ac.tmps.getD 75 undef = .int .i64 (qa : Int) := h.val 9 75 rfl rfl
              have e2 : ac.tmps.getD 79 undef = .int .i64 (qc : Int) := h.val 13 79 rfl rfl
              refine ⟨wanted_none rfl, ?_⟩
              simp at e0 e1 e2
              clear h
              go_simp
              exact ⟨Below.refl _ _, rfl⟩
            · intro ac w' h
              have e0 : ac.tmps.getD 80 undef = .agg #[.int .i64 (qb : Int), .int .i64 (qa : Int), .int .i64 (qc : Int)] := h.val 14 80 rfl rfl
              refine ⟨wanted_none rfl, ?_⟩
              simp at e0
              have hbs := h.be.size
              clear h
              go_simp
              exact ⟨(Below.refl _ _).alloc (Nat.le_refl _) _, ⟨_, rfl, by omega, Blk.new _ _ _⟩⟩
          intro vs w2 hb2 hv
          have v0 := hv 0 (by omega)
          have v1 := hv 1 (by omega)
          have v2 := hv 2 (by omega)
          have v3 := hv 3 (by omega)
          have v4 := hv 4 (by omega)
          have v5 := hv 5 (by omega)
          have v6 := hv 6 (by omega)
          have v7 := hv 7 (by omega)
          have v8 := hv 8 (by omega)
          have v9 := hv 9 (by omega)
          have v10 := hv 10 (by omega)
          have v11 := hv 11 (by omega)
          have v12 := hv 12 (by omega)
          have v13 := hv 13 (by omega)
          have v14 := hv 14 (by omega)
          obtain ⟨p7, v15, hp7, k7⟩ := hv 15 (by omega)
          simp only [tgGood] at v0 v1 v2 v3 v4 v5 v6 v7 v8 v9 v10 v11 v12 v13 v14
          simp only [List.take_succ_cons, List.take_zero, List.drop_succ_cons, List.drop_zero, putSeq, Act.put, List.setIfInBounds_toArray, List.set_cons_zero, List.set_cons_succ, v0, v1, v2, v3, v4, v5, v6, v7, v8, v9, v10, v11, v12, v13, v14, v15, Nat.reduceAdd]
          clear hv v0 v1 v2 v3 v4 v5 v6 v7 v8 v9 v10 v11 v12 v13 v14 v15
          have HG2 := hide (HC.out w2 hb2).1
          obtain ⟨q0, q1, qf0, qf1⟩ := HG2.out.ko.two
          have ql := HG2.out.ko.lt
          have hsz2 : nb ≤ w2.heap.size := by omega
          obtain ⟨it, hit, hz0, hz1, hz2⟩ := info_tri
          have HIT := hide hit
          have hT5 : T ≤ 3 := hk7
          clear HC TA TB TC hit
          go_wp2_with (
            at_builtin
            refine wpList_append_lies _ rfl (.tmp 67) (.tmp 81) 23 rfl nb 75 it (.agg #[.int .i64 0, .int .i64 0, .int .i64 0]) 3 24 under_tris HIT.out hz0 hz1 hz2 rfl (by decide) _ k (tris ((turnN n r).ts.take k)) rfl HG2.out.oot ⟨p7, 0, none⟩ 1 1 [.int .i64 (qb : Int), .int .i64 (qa : Int), .int .i64 (qc : Int)] rfl rfl
              (World.news_of_block (cs := #[.int .i64 (qb : Int), .int .i64 (qa : Int), .int .i64 (qc : Int)]) (t := 75) (fr := (0, 0)) k7) (by intro u hu; simp at hu; rcases hu with rfl | rfl | rfl <;> rfl) (by decide) (by unfold maxLen; omega) (by omega) hsz2 _ rfl ?_
            intro g2 cap2 W4 ow4 gr4 at4 lt4
            have HGN : Hid (TuIn W1 nb (some ⟨sg, 0, none⟩) N scap (some ⟨tb, toff, none⟩) T tcap (turnN n r).sp (.slice (some ⟨g2, 0, none⟩) (k + 1) cap2) (k + 1) ((turnN n r).ts.take (k + 1)) (W4.setCell ⟨nb + 1 + 1 + 1, 1, none⟩ (.slice (some ⟨g2, 0, none⟩) (k + 1) cap2))) := hide (by
              have h1 := blk_grown HG2.out.kn gr4 fun j e => ownBlk HG2.out.oot e HG2.out.kn (by decide)
              have h2 := blk_grown HG2.out.km gr4 fun j e => ownBlk HG2.out.oot e HG2.out.km (by decide)
              have h3 := blk_grown HG2.out.ko gr4 fun j e => ownBlk HG2.out.oot e HG2.out.ko (by decide)
              have ow5 : W4.ownsRow nb 75 3 (.slice (some ⟨g2, 0, none⟩) (k + 1) cap2) (k + 1) (tris ((turnN n r).ts.take (k + 1))) := by rw [HTK.out, tris_append]; exact ow4
              have oo5 := HG2.out.oo.kept gr4 (own_ne HG2.out.oo HG2.out.oot (by decide))
              have be4 := below_own HG2.out.be HG2.out.oot (Nat.le_refl _) hsz2 gr4
              exact ⟨h1.other (p := ⟨nb + 3, 1, none⟩) (show nb ≠ nb + 3 by omega) _, h2.other (p := ⟨nb + 3, 1, none⟩) (show nb + 1 ≠ nb + 3 by omega) _, h3.set 1 _, own_set oo5 h3 (by decide), own_set ow5 h3 (by decide), be4.setCell (p := ⟨nb + 3, 1, none⟩) (show nb ≤ nb + 3 by omega) _⟩)
            have h3 := blk_grown HG2.out.ko gr4 fun j e => ownBlk HG2.out.oot e HG2.out.ko (by decide)
            obtain ⟨m0, m1, mf0, mf1⟩ := h3.two
            have ml := h3.lt
            clear h3 q0 q1 qf0 qf1 ql)
          exact ⟨⟨k + 1, p, _, _, by omega, rfl, rfl, HGN.out⟩, by simp [intOf]⟩

end Go.Proofs.Ytlbhnicengolfaa
