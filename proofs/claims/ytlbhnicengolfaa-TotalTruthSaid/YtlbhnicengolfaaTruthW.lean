/-
  TotalTruth: the walk.
-/
import Derived.Test.YtlbhnicengolfaaSharp
import Derived.Test.YtlbhnicengolfaaTruthP
import Derived.Deep.LoopGhost
import Derived.Deep.DeepCutAuto
namespace Go.Proofs.Ytlbhnicengolfaa
open Go.RowKit
set_option linter.unusedVariables false
set_option linter.unusedSimpArgs false

/-- What is only read: the net at nb, its rows, spans at La, lengths at Ma, squares at xa. -/
structure TwIn (w : World) (n : TNet) (sa : Option Addr) (scap : Nat) (ta : Option Addr) (N T tcap nb : Nat) (La : Option Addr) (L : List Sp) (Ma : Option Addr) (M : List Sp) (xa : Option Addr) (X : List Int) (wr : World) : Prop where
  net : NetIn n sa ta N T tcap wr
  kn : Blk wr nb #[.slice sa N scap, .slice ta T tcap] 25
  rl : Row wr wr.heap.size La (spans L)
  rm : Row wr wr.heap.size Ma (spans M)
  rx : Row wr wr.heap.size xa (ints X)
  be : Below w.heap.size w wr
theorem TwIn.kept {w : World} {n : TNet} {sa : Option Addr} {scap : Nat} {ta : Option Addr} {N T tcap nb : Nat} {La : Option Addr} {L : List Sp} {Ma : Option Addr} {M : List Sp} {xa : Option Addr} {X : List Int} {wr W : World} (h : TwIn w n sa scap ta N T tcap nb La L Ma M xa X wr) (hb : Below wr.heap.size wr W) : TwIn w n sa scap ta N T tcap nb La L Ma M xa X W :=
  ⟨h.net.below hb, h.kn.kept hb, row_keep h.rl hb, row_keep h.rm hb, row_keep h.rx hb, h.be.trans (hb.mono h.be.size)⟩
/-- A copied net at p, its spans at g. -/
structure OIn (V0 : World) (p g c N : Nat) (ta : Option Addr) (T tcap : Nat) (sp : List Sp) (wr : World) : Prop where
  kp : Blk wr p #[.slice (some ⟨g, 0, none⟩) N c, .slice ta T tcap] 25
  os : wr.ownsRow V0.heap.size 53 2 (.slice (some ⟨g, 0, none⟩) N c) N (spans sp)
  be : Below V0.heap.size V0 wr
theorem OIn.kept {V0 : World} {p g c N : Nat} {ta : Option Addr} {T tcap : Nat} {sp : List Sp} {wr W : World} (h : OIn V0 p g c N ta T tcap sp wr) (hb : Below wr.heap.size wr W) : OIn V0 p g c N ta T tcap sp W :=
  ⟨h.kp.kept hb, own_kept h.os hb, h.be.trans (hb.mono h.be.size)⟩
theorem spans_one : ∀ (ls : List Sp) (q : Nat) (a b y : Int), ((spans (ls.set q (a, b))).set (q * 2 + 1) (.int .i64 y) = spans (ls.set q (a, y))) ∧ ((spans (ls.set q (a, b))).set (q * 2) (.int .i64 y) = spans (ls.set q (y, b)))
  | [], q, a, b, y => ⟨rfl, rfl⟩
  | p :: ls, 0, a, b, y => ⟨rfl, rfl⟩
  | p :: ls, q + 1, a, b, y => by
    obtain ⟨h1, h2⟩ := spans_one ls q a b y
    rw [show (q + 1) * 2 = q * 2 + 1 + 1 by omega]
    simp only [spans, List.set_cons_succ]
    rw [h1, h2]
    exact ⟨rfl, rfl⟩
section
variable {V0 : World} {p g c N : Nat} {ta : Option Addr} {T tcap : Nat} {sp : List Sp} {wr : World} {k : Nat} {a b : Int}
theorem OIn.hi (h : OIn V0 p g c N ta T tcap (sp.set k (a, b)) wr) (y : Int) : OIn V0 p g c N ta T tcap (sp.set k (a, y)) (wr.setCell ⟨g, k * 2 + 1, none⟩ (.int .i64 y)) := by
  have hne : p ≠ g := fun e => ownBlk h.os rfl h.kp (by decide) e.symm
  obtain ⟨cur, hk, hb, hle, hm, hs, ht⟩ := own2_blk h.os
  refine ⟨h.kp.other (p := ⟨g, k * 2 + 1, none⟩) hne _, ⟨by have := h.os.1; rw [spans_length, List.length_set] at this ⊢; exact this, .inr ⟨g, c, _, rfl, hb, hk.set (k * 2 + 1) (.int .i64 y), hle, hm, by simpa using hs, ?_⟩⟩, h.be.setCell (p := ⟨g, k * 2 + 1, none⟩) hb _⟩
  rw [Array.toList_setIfInBounds, List.take_set, ht, (spans_one _ _ _ _ _).1]
theorem OIn.lo (h : OIn V0 p g c N ta T tcap (sp.set k (a, b)) wr) (y : Int) : OIn V0 p g c N ta T tcap (sp.set k (y, b)) (wr.setCell ⟨g, k * 2, none⟩ (.int .i64 y)) := by
  have hne : p ≠ g := fun e => ownBlk h.os rfl h.kp (by decide) e.symm
  obtain ⟨cur, hk, hb, hle, hm, hs, ht⟩ := own2_blk h.os
  refine ⟨h.kp.other (p := ⟨g, k * 2, none⟩) hne _, ⟨by have := h.os.1; rw [spans_length, List.length_set] at this ⊢; exact this, .inr ⟨g, c, _, rfl, hb, hk.set (k * 2) (.int .i64 y), hle, hm, by simpa using hs, ?_⟩⟩, h.be.setCell (p := ⟨g, k * 2, none⟩) hb _⟩
  rw [Array.toList_setIfInBounds, List.take_set, ht, (spans_one _ _ _ _ _).2]
theorem OIn.cells (h : OIn V0 p g c N ta T tcap (sp.set k (a, b)) wr) (hk : k < N) : wr.cell? ⟨p, 0, none⟩ = some (.slice (some ⟨g, 0, none⟩) N c) ∧ wr.cell? ⟨g, k * 2, none⟩ = some (.int .i64 a) ∧ wr.cell? ⟨g, k * 2 + 1, none⟩ = some (.int .i64 b) ∧ wr.frozen? ⟨g, k * 2, none⟩ = false ∧ wr.frozen? ⟨g, k * 2 + 1, none⟩ = false ∧ p < wr.heap.size ∧ g < wr.heap.size := by
  have hl := own2_len h.os
  rw [List.length_set] at hl
  obtain ⟨c0, c1, f0, f1⟩ := own2_cell h.os hk
  have e : (sp.set k (a, b)).getD k (0, 0) = (a, b) := by rw [List.getD_eq_getElem?_getD, List.getElem?_set_self (by omega)]; rfl
  rw [e] at c0 c1
  exact ⟨h.kp.two.1, c0, c1, f0, f1, h.kp.lt, (h.os.lt g rfl).2⟩
end
theorem set_sameS {sp : List Sp} {k : Nat} (h : k < sp.length) : sp.set k (los sp k, his sp k) = sp := by rw [← span_eq h, List.set_getElem_self]
theorem TwIn.o {w : World} {n : TNet} {sa : Option Addr} {scap : Nat} {ta : Option Addr} {N T tcap nb : Nat} {La : Option Addr} {L : List Sp} {Ma : Option Addr} {M : List Sp} {xa : Option Addr} {X : List Int} {V0 wr : World} (h : TwIn w n sa scap ta N T tcap nb La L Ma M xa X V0) {p g c : Nat} {sp' : List Sp} (ho : OIn V0 p g c N ta T tcap sp' wr) (hl : sp'.length = N) : NetIn ⟨sp', n.ts⟩ (some ⟨g, 0, none⟩) ta N T tcap wr :=
  have h' := h.net.below ho.be
  ⟨hl.symm, h'.htn, h'.htc, h'.htc2, h'.hl, h'.hl2, own2_row ho.os, h'.rt⟩
/-- What is only read at the end. -/
structure TwF (w : World) (La : Option Addr) (L : List Sp) (Aa : Option Addr) (A : List Sp) (Ba : Option Addr) (B : List Sp) (xa : Option Addr) (X : List Int) (wr : World) : Prop where
  rl : Row wr wr.heap.size La (spans L)
  ra : Row wr wr.heap.size Aa (spans A)
  rb : Row wr wr.heap.size Ba (spans B)
  rx : Row wr wr.heap.size xa (ints X)
  be : Below w.heap.size w wr
theorem TwF.kept {w : World} {La : Option Addr} {L : List Sp} {Aa : Option Addr} {A : List Sp} {Ba : Option Addr} {B : List Sp} {xa : Option Addr} {X : List Int} {wr W : World} (h : TwF w La L Aa A Ba B xa X wr) (hb : Below wr.heap.size wr W) : TwF w La L Aa A Ba B xa X W :=
  ⟨row_keep h.rl hb, row_keep h.ra hb, row_keep h.rb hb, row_keep h.rx hb, h.be.trans (hb.mono h.be.size)⟩
theorem xF_nat (X : List Int) (q : Nat) : xF X (q : Int) = X.getD q 0 := by unfold xF; rw [Int.toNat_natCast]
theorem tris_take : ∀ (ts : List Tri) (k : Nat), tris (ts.take k) = (tris ts).take (3 * k)
  | [], k => by simp [tris]
  | t :: ts, 0 => by simp [tris]
  | t :: ts, k + 1 => by
    rw [List.take_succ_cons, show 3 * (k + 1) = 3 * k + 1 + 1 + 1 by omega]
    simp only [tris, List.take_succ_cons]
    rw [tris_take ts k]
theorem netin_less {n : TNet} {sa ta : Option Addr} {N T tcap : Nat} {w : World} (h : NetIn n sa ta N T tcap w) (k : Nat) (hk : k ≤ T) : NetIn ⟨n.sp, n.ts.take k⟩ sa ta N k tcap w := by
  have ht := h.htn
  have hc := h.htc
  have hl := h.hl2
  refine ⟨h.hsn, by show k = (n.ts.take k).length; rw [List.length_take]; omega, by omega, h.htc2, h.hl, by omega, h.rs, ?_⟩
  have e : tris (n.ts.take k) = ((tris n.ts).drop 0).take (3 * k - 0) := by rw [List.drop_zero, Nat.sub_zero, tris_take]
  have := h.rt.cut 0 (3 * k)
  rw [← e] at this
  rcases this with h5 | ⟨b, off, e2, hb, h5⟩
  · exact .inl h5
  · cases ta with
    | none => cases e2
    | some ad =>
      obtain ⟨b', off', f'⟩ := ad
      simp [Addr.add] at e2
      obtain ⟨rfl, rfl, rfl⟩ := e2
      exact .inr ⟨b', off', rfl, hb, h5⟩
theorem netin_none {n : TNet} {sa ta : Option Addr} {N T tcap : Nat} {w : World} (h : NetIn n sa ta N T tcap w) : NetIn ⟨n.sp, n.ts.take 0⟩ sa none N 0 0 w :=
  ⟨h.hsn, by simp, Nat.le_refl _, by omega, h.hl, by omega, h.rs, .inl rfl⟩

attribute [local go_sem] grows growAt growUpon in
set_option maxRecDepth 100000 in
set_option maxHeartbeats 8000000 in
theorem truthw_any (s : TSky) (lg : Nat → Int) (which better : Int) (la : Option Addr) (ln lc : Nat) (w : World) (hs : SkyOk s) (hlg : LegOk lg) (hw0 : 0 ≤ which) (hw1 : which ≤ 255) (hb0 : 0 ≤ better) (hb1 : better ≤ 255) (hln : ln = s.lk.length) (hl : ln ≤ 9223372036854775807) (hrow : Row w w.heap.size la (u8p s.lk)) :
    Calls Try.prog 8 #[.agg (skyC la ln lc s), .agg (legC lg), .int .u8 which, .int .u8 better] w fun e w' => e = .returned (.bool true) ∧ Below w.heap.size w w' := by
  have hok := skyTru_ok hs hlg
  have htru := skyTru_true hs hlg
  have HSQ := hide (sqR_tru hok htru)
  have HLE := hide (len_ok hok htru)
  have HCL := hide (sky_cla s hok (by simp [skyTru]) rfl htru)
  have HNZ : Hid (checkT (skyTru s lg) = 0 → NzAll (skyTru s lg)) := hide (fun _ => sky_nz s (sp := (skyTru s lg).sp) (by simp [skyTru]))
  have HM := hide (fun (W : World) (hb : Below w.heap.size w W) => tru_net s lg la ln lc W hs hlg hln hl ((hrow.below hb (Nat.le_refl _)).mono hb.size))
  have HLN : Hid ((skyTru s lg).sp.length = 1 + 2 * skyK s ∧ (skyTru s lg).ts.length = skyK s ∧ (skyX s lg).length = 1 + 2 * skyK s ∧ (narT (skyTru s lg).ts (sqs (skyTru s lg).sp)).length = 1 + 2 * skyK s) := hide ⟨by simp [skyTru], skyTs_len _ _, skyX_len s lg, by rw [narT_len, sqs_len]; simp [skyTru]⟩
  have HOK := hide hok
  have HTRU := hide htru
  have HXB := hide (skyX_range s hlg)
  have hk7 : skyK s ≤ 3 := by unfold skyK; omega
  clear hs hlg hln hrow hok htru
  generalize skyTru s lg = n at *
  generalize skyX s lg = X at *
  generalize skyK s = T at *
  obtain ⟨N, hN⟩ : ∃ N, N = 1 + 2 * T := ⟨_, rfl⟩
  rw [← hN] at HM HLN
  have HN := hide hN
  have hN1 : 1 ≤ N := by omega
  have hN7 : N ≤ 7 := by omega
  clear hN
  unfold skyC legC
  go_enter Try.func8, Try.ntmps8
  go_wp2_with fail
  generalize hW : World.alloc (World.alloc w _) _ = V
  have hbV : Below w.heap.size w V := by rw [← hW]; exact ((Below.refl _ _).alloc (Nat.le_refl _) _).alloc (by simp) _
  clear hW
  refine (HM.out V hbV).mono ?_
  rintro e W1 ⟨sa, scap, ta, tcap, gx, rfl, hnet, rx, hb1'⟩
  have hB1 := hbV.trans (hb1'.mono hbV.size)
  clear hbV hb1'
  have hnet := hnet.below ((Below.refl _ _).alloc (Nat.le_refl _) (.cells #[.slice sa N scap, .slice ta T tcap] 25))
  have rx := row_keep rx ((Below.refl _ _).alloc (Nat.le_refl _) (.cells #[.slice sa N scap, .slice ta T tcap] 25))
  have kn := Blk.new W1 #[.slice sa N scap, .slice ta T tcap] 25
  have hB2 := hB1.alloc hB1.size (.cells #[.slice sa N scap, .slice ta T tcap] 25)
  obtain ⟨k, hkq, hkN⟩ : ∃ q : Nat, which % (N : Int) = (q : Int) ∧ q < N := by
    have e0 := Int.emod_nonneg which (b := (N : Int)) (by omega)
    have e1 := Int.emod_lt_of_pos which (b := (N : Int)) (by omega)
    exact ⟨(which % (N : Int)).toNat, by omega, by omega⟩
  clear hB1
  go_wp2_with fail
  refine (squares_any n sa ta N scap T tcap _ hnet).mono ?_
  rintro e W2 ⟨v, rfl, hv, hb2⟩
  rw [HSQ.out.1] at hv ⊢
  dsimp only at hv
  obtain ⟨al, cl, rfl, rl⟩ := own_row hv
  rw [HLN.out.2.2.2] at ⊢
  have hnet2 := hnet.below hb2
  have kn2 := kn.kept hb2
  have rx2 := row_keep rx hb2
  have hB3 := hB2.trans (hb2.mono hB2.size)
  clear hnet rx kn hB2 hb2 hv
  obtain ⟨n0, n1, _⟩ := kn2.two
  have hnl := kn2.lt
  go_wp2_with fail
  refine (lengths_any n sa ta N scap T tcap _ hnet2).mono ?_
  rintro e W3 ⟨v, rfl, hv, hb3⟩
  rw [HLE.out.1] at hv ⊢
  dsimp only at hv
  rw [List.length_map, HLN.out.2.2.2] at hv
  obtain ⟨am, cm, rfl, rm⟩ := own_row hv
  have hnet3 := hnet2.below hb3
  have kn3 := kn2.kept hb3
  have rx3 := row_keep rx2 hb3
  have rl3 := row_keep rl hb3
  have hB4 := hB3.trans (hb3.mono hB3.size)
  clear hnet2 rx2 kn2 hB3 hb3 hv rl n0 n1 hnl
  obtain ⟨n0, n1, _⟩ := kn3.two
  have hnl := kn3.lt
  go_wp2_with fail
  refine (clash_any n sa ta N scap T tcap _ hnet3 HNZ.out).mono ?_
  rintro e W4 ⟨v, rfl, -, hv, hb4⟩
  rw [HCL.out] at hv ⊢
  obtain rfl := hv (by decide)
  have hnet4 := hnet3.below hb4
  have kn4 := kn3.kept hb4
  have rx4 := row_keep rx3 hb4
  have rl4 := row_keep rl3 hb4
  have rm4 := row_keep rm hb4
  have hB5 := hB4.trans (hb4.mono hB4.size)
  clear hnet3 rx3 kn3 hB4 hb4 hv rl3 rm n0 n1 hnl HCL HNZ
  have HQ : Hid (∀ q, q < N → InS ((narT n.ts (sqs n.sp)).getD q (0, 0)) (X.getD q 0) ∧ 0 ≤ los ((narT n.ts (sqs n.sp)).map lenS) q ∧ los ((narT n.ts (sqs n.sp)).map lenS) q ≤ 10000 ∧ 0 ≤ his ((narT n.ts (sqs n.sp)).map lenS) q ∧ his ((narT n.ts (sqs n.sp)).map lenS) q ≤ 10001 ∧
    los ((narT n.ts (sqs n.sp)).map lenS) q * los ((narT n.ts (sqs n.sp)).map lenS) q ≤ X.getD q 0 ∧ X.getD q 0 ≤ his ((narT n.ts (sqs n.sp)).map lenS) q * his ((narT n.ts (sqs n.sp)).map lenS) q) := hide (fun q hq => by
    have h1 := HSQ.out.2 q (by rw [HLN.out.1]; exact hq)
    have h2 := HLE.out.2 q (by rw [HLN.out.1]; exact hq)
    rw [xF_nat] at h1 h2
    exact ⟨h1, h2⟩)
  have HLN2 : Hid ((narT n.ts (sqs n.sp)).length = N ∧ ((narT n.ts (sqs n.sp)).map lenS).length = N) := hide ⟨HLN.out.2.2.2, by rw [List.length_map]; exact HLN.out.2.2.2⟩
  obtain ⟨L, hL⟩ : ∃ L, narT n.ts (sqs n.sp) = L := ⟨_, rfl⟩
  obtain ⟨M, hM⟩ : ∃ M, L.map lenS = M := ⟨_, rfl⟩
  rw [hL] at HQ HLN2 rm4 rl4 HSQ
  rw [hM] at HQ HLN2 rm4
  have HL := hide hL
  clear hL hM HLE
  obtain ⟨gs, gso, hsa, _, _⟩ := hnet4.rs.span (by rw [HLN.out.1]; omega)
  obtain ⟨gl, glo, hal, _, _⟩ := rl4.span (by rw [HLN2.out.1]; omega)
  obtain ⟨gm, gmo, ham, _, _⟩ := rm4.span (by rw [HLN2.out.2]; omega)
  subst hsa hal ham
  have hsh : TwIn w n (some ⟨gs, gso, none⟩) scap ta N T tcap W1.heap.size (some ⟨gl, glo, none⟩) L (some ⟨gm, gmo, none⟩) M (some ⟨gx, 0, none⟩) X W4 := ⟨hnet4, kn4, rl4, rm4, rx4, hB5⟩
  have HSH := hide hsh
  clear hnet4 kn4 rl4 rm4 rx4 hB5 hsh
  go_wp2_with fail
  go_loopw [73] (fun i wr => ∃ q : Nat, q ≤ N ∧ i = .int .i64 (q : Int) ∧ TwIn w n (some ⟨gs, gso, none⟩) scap ta N T tcap W1.heap.size (some ⟨gl, glo, none⟩) L (some ⟨gm, gmo, none⟩) M (some ⟨gx, 0, none⟩) X wr) (fun i _ => N - (intOf i).toNat)
  case atStart => exact ⟨0, Nat.zero_le _, rfl, HSH.out⟩
  case round =>
    clear HSH
    obtain ⟨q, hq, rfl, hsh⟩ := hrel
    have HSH := hide hsh
    by_cases hlt : q < N
    · as_aux_lemma =>
        obtain ⟨_, _, e, hlb, hlc⟩ := hsh.rl.span (by rw [HLN2.out.1]; omega)
        cases e
        obtain ⟨_, _, e, hmb, hmc⟩ := hsh.rm.span (by rw [HLN2.out.2]; omega)
        cases e
        obtain ⟨_, _, e, htb, htc⟩ := hsh.rx.int (by rw [HLN.out.2.2.1]; omega)
        cases e
        obtain ⟨l0, l1⟩ := hlc q (by rw [HLN2.out.1]; exact hlt)
        obtain ⟨m0, m1⟩ := hmc q (by rw [HLN2.out.2]; exact hlt)
        have t0 := htc q (by rw [HLN.out.2.2.1]; exact hlt)
        simp only [Nat.zero_add, iat] at t0
        have hq' := HQ.out q hlt
        have bx := HXB.out q
        clear hlc hmc htc hsh
        unfold InS at hq'
        rw [show L.getD q (0, 0) = (los L q, his L q) from rfl] at hq'
        generalize X.getD q 0 = y at *
        generalize los L q = ll at *
        generalize his L q = lh at *
        generalize los M q = ml at *
        generalize his M q = mh at *
        obtain ⟨⟨i0, i1⟩, p0, p1, p2, p3, p4, p5⟩ := hq'
        obtain ⟨bx0, bx1⟩ := bx
        have q0 := sq_mono (a := ml) (b := 10000) p0 p1
        have q1 := sq_mono (a := mh) (b := 10001) p2 p3
        have q2 := Int.mul_nonneg p0 p0
        have q3 := Int.mul_nonneg p2 p2
        have HI : Hid ((decide (ll ≤ y) && decide (y ≤ lh)) = true) := hide (by rw [decide_eq_true i0, decide_eq_true i1]; rfl)
        have d0 : decide (ml < 0) = false := decide_eq_false (by omega)
        have d1 : decide (1048576 < ml) = false := decide_eq_false (by omega)
        have d2 : decide (1048576 < mh) = false := decide_eq_false (by omega)
        have d3 : decide (y < ml * ml) = false := decide_eq_false (by omega)
        have d4 : decide (mh * mh < y) = false := decide_eq_false (by omega)
        have w0 : IntKind.i64.wrap (ml * ml) = ml * ml := IntWalk.i64_in _ (by omega)
        have w1 : IntKind.i64.wrap (mh * mh) = mh * mh := IntWalk.i64_in _ (by omega)
        have ik : (q : Int) < N := by omega
        have HW := hide (fun X : Ext wr => Ext.call (within_any ll lh y X.w))
        rw [HI.out] at HW
        have hX := @Ext.cell wr
        clear i0 i1 p0 p1 p2 p3 p4 p5 q0 q1 q2 q3
        go_wp2_with fail
        refine wp_region_all (Ext.w (W := wr)) (by kernel_rfl) (by kernel_rfl) (Ext.start wr) ?_
        repeat (first | go_big_quiet_skip | quiet_step (first | (go_at_call 42; with_reducible exact HW.out _)))
        refine wpQuiet_nil ?_
        intro X'
        have hsh := HSH.out.kept X'.below
        go_wp2_with fail
        exact ⟨⟨q + 1, by omega, by go_num, hsh⟩, by simp [intOf]; omega⟩
    · have hqN : q = N := by omega
      subst hqN
      clear hlt hsh
      obtain ⟨n0, n1, _⟩ := HSH.out.kn.two
      have hnl := HSH.out.kn.lt
      have HSL : Hid (n.sp.length = q) := hide HLN.out.1
      go_wp2_with fail
      rw [hkq]
      clear n0 n1 hnl
      have HC := hide (fun (W : World) (hb : Below wr.heap.size wr W) => (HSH.out.kept hb))
      have hbz := HSH.out.kn.lt
      obtain ⟨i0, hi0, hz0, hz1, hz2⟩ := info_asp
      have HI := hide hi0
      clear hi0
      refine wp_region_monoF wr _ 8 (cpGood W1.heap.size wr.heap.size q (.slice (some ⟨gs, gso, none⟩) q scap) (.slice ta T tcap) n.sp) (n := 342) (by kernel_rfl) (by decide +kernel) rfl cpGood_below ?steps ?_
      case steps =>
        as_aux_lemma =>
          refine ⟨?_, ?_, ?_, ?_, ?_, ?_, ?_, ?_, trivial⟩
          · intro ac w' h
            have e1 : ac.tmps.getD 9 undef = .pointer (some ⟨W1.heap.size, 0, none⟩) := h.old 9 rfl
            refine ⟨wanted_none rfl, ?_⟩
            simp at e1
            have HBE := hide h.be
            clear h
            go_simp
            exact ⟨Below.refl _ _, rfl⟩
          · intro ac w' h
            have e1 : ac.tmps.getD 145 undef = .pointer (some ⟨W1.heap.size, 1, none⟩) := h.val 0 145 rfl rfl
            refine ⟨wanted_none rfl, ?_⟩
            simp at e1
            have q := (HC.out w' h.be).kn.two
            have HBE := hide h.be
            clear h
            go_simp
            exact ⟨Below.refl _ _, rfl⟩
          · intro ac w' h
            refine ⟨wanted_none rfl, ?_⟩
            have HBE := hide h.be
            clear h
            go_simp
            exact ⟨(Below.refl _ _).alloc (Nat.le_refl _) _, ⟨_, rfl⟩⟩
          · intro ac w' h
            have e1 : ac.tmps.getD 9 undef = .pointer (some ⟨W1.heap.size, 0, none⟩) := h.old 9 rfl
            refine ⟨wanted_none rfl, ?_⟩
            simp at e1
            have HBE := hide h.be
            clear h
            go_simp
            exact ⟨Below.refl _ _, rfl⟩
          · intro ac w' h
            have e1 : ac.tmps.getD 148 undef = .pointer (some ⟨W1.heap.size, 0, none⟩) := h.val 3 148 rfl rfl
            refine ⟨wanted_none rfl, ?_⟩
            simp at e1
            have q := (HC.out w' h.be).kn.two
            have HBE := hide h.be
            clear h
            go_simp
            exact ⟨Below.refl _ _, rfl⟩
          · intro ac w' h
            obtain ⟨b46, e46⟩ : cpNil (ac.tmps.getD 147 undef) := h.val 2 147 rfl rfl
            have e48 : ac.tmps.getD 149 undef = .slice (some ⟨gs, gso, none⟩) q scap := h.val 4 149 rfl rfl
            refine ⟨wanted_none rfl, ?_⟩
            simp at e46 e48
            have hbs := h.be.size
            obtain ⟨v', w1, hr, ho, hg⟩ := run_append_arg_grows (P := Try.prog) w' 22 22 53 i0 (.agg #[.int .i64 0, .int .i64 0]) 2 16 under_asps HI.out hz0 hz1 hz2 rfl (by decide) ⟨b46, 0, none⟩ 0 0 [] rfl (by simp) ⟨gs, gso, none⟩ q scap (spans n.sp) (by rw [spans_length, HSL.out]; omega) (fun j u hj => row_reads (HC.out w' h.be).net.rs j u hj) (by omega) (by unfold maxLen; omega) (by omega)
            have hs1 : ac.eval (.tmp 147) = .slice (some ⟨b46, 0, none⟩) 0 0 := by simpa [Act.eval] using e46
            have hs2 : ac.eval (.tmp 149) = .slice (some ⟨gs, gso, none⟩) q scap := by simpa [Act.eval] using e48
            clear h e46 e48
            unfold stepUpon
            simp [execOp, resolve, invoke, builtin, hs1, hs2, hr, Result.andThen]
            refine ⟨below_of_grown hg, ?_⟩
            have ho' := Go.Joins.ownsRow_le ho hbs
            rw [Nat.zero_add, List.nil_append] at ho'
            obtain ⟨ga, gc, e, _, _⟩ := own_shape ho'
            subst e
            obtain ⟨g, c, e2, _, _⟩ := ho'.form (by omega)
            cases e2
            exact ⟨g, gc, rfl, ho'⟩
          · intro ac w' h
            have e45 : ac.tmps.getD 146 undef = .slice ta T tcap := h.val 1 146 rfl rfl
            obtain ⟨g49, c49, e49, hv49⟩ : (cpOwn wr.heap.size q n.sp) w' (ac.tmps.getD 150 undef) := h.val 5 150 rfl rfl
            refine ⟨wanted_none rfl, ?_⟩
            simp at e45 e49
            have Hhv49 := hide hv49
            clear hv49
            clear h
            go_simp
            exact ⟨Below.refl _ _, ⟨_, _, rfl, Hhv49.out⟩⟩
          · intro ac w' h
            refine ⟨wanted_none rfl, ?_⟩
            have hbs := h.be.size
            clear h
            go_simp
            exact ⟨(Below.refl _ _).alloc (Nat.le_refl _) _, ⟨_, rfl, hbs, Blk.new _ _ _⟩⟩
      intro vs w2 hb2 hv
      have v0 := hv 0 (by omega)
      have v1 := hv 1 (by omega)
      obtain ⟨g2, v2⟩ := hv 2 (by omega)
      have v3 := hv 3 (by omega)
      have v4 := hv 4 (by omega)
      obtain ⟨g5, c5, v5, -⟩ := hv 5 (by omega)
      obtain ⟨g6, c6, v6, hown⟩ := hv 6 (by omega)
      obtain ⟨p7, v7, hp7, k7⟩ := hv 7 (by omega)
      simp only [cpGood] at v0 v1 v3 v4
      simp only [List.take_succ_cons, List.take_zero, List.drop_succ_cons, List.drop_zero, putSeq, Act.put, List.setIfInBounds_toArray, List.set_cons_zero, List.set_cons_succ, v0, v1, v2, v3, v4, v5, v6, v7, Nat.reduceAdd]
      clear hv v0 v1 v2 v3 v4 v5 v6 v7 HI hz0 hz1 hz2 hbz
      have hsh2 := HC.out w2 hb2
      have hne : g6 ≠ p7 := ownBlk hown rfl k7 (by decide)
      have hg6 := hown.lt g6 rfl
      obtain ⟨q0, q1, qf0, qf1⟩ := k7.two
      have ql := k7.lt
      clear HC
      have hne' := hne.symm
      have ho1 := own_set (i := 0) (u := .slice (some ⟨g6, 0, none⟩) q c6) hown k7 (by decide)
      have k7a := k7.set 0 (.slice (some ⟨g6, 0, none⟩) q c6)
      have ho2 := own_set (i := 1) (u := .slice ta T tcap) ho1 k7a (by decide)
      have k7b := k7.set2 (.slice (some ⟨g6, 0, none⟩) q c6) (.slice ta T tcap)
      have hbW := (hb2.setCell (p := ⟨p7, 0, none⟩) hp7 (.slice (some ⟨g6, 0, none⟩) q c6)).setCell (p := ⟨p7, 1, none⟩) hp7 (.slice ta T tcap)
      rw [← set_sameS (sp := n.sp) (k := k) (by rw [HLN.out.1]; exact hkN)] at ho2
      have HO := hide (OIn.mk k7b ho2 hbW)
      have hsk := HOK.out.sp k (by rw [HLN.out.1]; exact hkN)
      have htk := HTRU.out.sp (k : Int) (by omega) (by rw [sqs_len, HLN.out.1]; omega)
      rw [spA_sqs (by omega) (by rw [HLN.out.1]; omega), Int.toNat_natCast, xF_nat] at htk
      have hbx := HXB.out k
      obtain ⟨y, hy⟩ : ∃ y, X.getD k 0 = y := ⟨_, rfl⟩
      obtain ⟨L0, hL0⟩ : ∃ y, los n.sp k = y := ⟨_, rfl⟩
      obtain ⟨H0, hH0⟩ : ∃ y, his n.sp k = y := ⟨_, rfl⟩
      rw [hy] at hbx htk
      rw [hL0] at hsk htk HO
      rw [hH0] at hsk htk HO
      have HY := hide hy
      have HLH := hide (And.intro hL0 hH0)
      unfold InS at htk
      dsimp only at htk
      obtain ⟨hs0, hs1, hs2⟩ := hsk
      obtain ⟨ht0, ht1⟩ := htk
      obtain ⟨hy0, hy1⟩ := hbx
      clear ho1 k7a ho2 k7b hbW hown k7 hb2 hsh2 hy hL0 hH0
      go_wp2_with fail
      clear q0 q1 qf0 qf1 ql hne' hne hg6
      generalize World.setCell (World.setCell w2 _ _) _ _ = Vo at *
      go_loopg [194] 10000 (fun gn kv wx => ∃ hi : Int, Hid (0 ≤ hi ∧ hi ≤ H0 ∧ y ≤ hi * hi) ∧ OIn wr p7 g6 c6 q ta T tcap (n.sp.set k (L0, hi)) wx ∧ hi.toNat ≤ gn)
      case atStart => exact ⟨H0, hide ⟨by omega, Int.le_refl _, ht1⟩, HO.out, by omega⟩
      case round =>
        rename World => V1
        clear HO
        obtain ⟨hi, hh, ho, hg⟩ := hrel
        have HHI := hh
        obtain ⟨h0, h1, h2⟩ := hh.out
        clear hh
        have HO := hide ho
        have HG := hide hg
        obtain ⟨o0, o1, o2, f1, f2, lp, lg'⟩ := ho.cells hkN
        obtain ⟨_, _, e, hxb, hxc⟩ := (HSH.out.kept ho.be).rx.int (by rw [HLN.out.2.2.1]; omega)
        cases e
        have t0 := hxc k (by rw [HLN.out.2.2.1]; exact hkN)
        simp only [Nat.zero_add, iat] at t0
        rw [HY.out] at t0
        clear hxc ho hg
        have ik : (k : Int) < q := by omega
        have b1 := sq_mono (a := hi) (b := 10000) h0 (by omega)
        have b2 : (hi - 1) * (hi - 1) = hi * hi - 2 * hi + 1 := by grind
        have w1 : IntKind.i64.wrap (hi - 1) = hi - 1 := IntWalk.i64_in _ (by omega)
        have w2' : IntKind.i64.wrap ((hi - 1) * (hi - 1)) = (hi - 1) * (hi - 1) := IntWalk.i64_in _ (by omega)
        have w3 : better.tmod 2 = better % 2 := Int.tmod_eq_emod_of_nonneg (by omega)
        clear b2 b1
        go_upto_region 15 with fail
        go_cut [185] (fun c wx => c = .bool (decide (0 < hi ∧ y ≤ (hi - 1) * (hi - 1) ∧ better % 2 = 0)) ∧ ∃ m, wx = V1.drewN m)
        case first =>
          as_aux_lemma =>
            by_cases c1 : 0 < hi
            · have d1 : decide (0 < hi) = true := decide_eq_true c1
              by_cases c2 : y ≤ (hi - 1) * (hi - 1)
              · have d2 : decide (y ≤ (hi - 1) * (hi - 1)) = true := decide_eq_true c2
                by_cases c3 : better % 2 = 0
                · have d3 : (better % 2 == 0) = true := beq_iff_eq.2 c3
                  have HB := hide (And.intro c1 (And.intro c2 c3))
                  clear c1 c2 c3
                  go_quiet (fail)
                  go_wp2_with fail
                  go_meet
                  exact ⟨congrArg Value.bool (decide_eq_true HB.out).symm, _, rfl⟩
                · have d3 : (better % 2 == 0) = false := beq_eq_false_iff_ne.2 c3
                  have HB : Hid (¬ (0 < hi ∧ y ≤ (hi - 1) * (hi - 1) ∧ better % 2 = 0)) := hide (fun h => c3 h.2.2)
                  clear c1 c2 c3
                  go_quiet (fail)
                  go_wp2_with fail
                  go_meet
                  exact ⟨congrArg Value.bool (decide_eq_false HB.out).symm, _, rfl⟩
              · have d2 : decide (y ≤ (hi - 1) * (hi - 1)) = false := decide_eq_false c2
                have HB : Hid (¬ (0 < hi ∧ y ≤ (hi - 1) * (hi - 1) ∧ better % 2 = 0)) := hide (fun h => c2 h.2.1)
                clear c1 c2
                go_quiet (fail)
                go_wp2_with fail
                go_meet
                exact ⟨congrArg Value.bool (decide_eq_false HB.out).symm, _, rfl⟩
            · have d1 : decide (0 < hi) = false := decide_eq_false c1
              have HB : Hid (¬ (0 < hi ∧ y ≤ (hi - 1) * (hi - 1) ∧ better % 2 = 0)) := hide (fun h => c1 h.1)
              clear c1
              go_quiet (fail)
              go_wp2_with fail
              go_meet
              exact ⟨congrArg Value.bool (decide_eq_false HB.out).symm, _, rfl⟩
        case rest =>
          obtain ⟨rfl, m, rfl⟩ := hcut
          have ho5 := HO.out.kept ((below_drewN (Below.refl _ _) m : Below V1.heap.size V1 (V1.drewN m)))
          clear HO o0 o1 o2 f1 f2 lp lg' hxb t0
          generalize V1.drewN m = V2 at *
          have HO5 := hide ho5
          obtain ⟨o0, o1, o2, f1, f2, lp, lg'⟩ := ho5.cells hkN
          clear ho5
          by_cases hc : 0 < hi ∧ y ≤ (hi - 1) * (hi - 1) ∧ better % 2 = 0
          · rw [decide_eq_true hc]
            have HC2 := hide hc
            clear hc
            have HO6 := hide (HO5.out.hi (hi - 1))
            go_wp2_with fail
            go_roundg (hi - 1).toNat
            case measure => have := HG.out; have := HC2.out; omega
            case rel => exact ⟨hi - 1, hide ⟨by have := HC2.out; omega, by omega, HC2.out.2.1⟩, HO6.out, Nat.le_refl _⟩
          · rw [decide_eq_false hc]
            clear hc
            go_wp2_with fail
            clear o0 o1 o2 f1 f2 lp lg' w1 w2' w3 HG h0 h1 h2
            go_loopg [228] 1000 (fun gn kv wx => ∃ lo : Int, Hid (L0 ≤ lo ∧ lo * lo ≤ y) ∧ OIn wr p7 g6 c6 q ta T tcap (n.sp.set k (lo, hi)) wx ∧ (1000 - lo).toNat ≤ gn)
            case atStart => exact ⟨L0, hide ⟨Int.le_refl _, ht0⟩, HO5.out, by omega⟩
            case round =>
              rename World => V3
              clear HO5
              obtain ⟨lo, hh, ho, hg⟩ := hrel
              have HLO := hh
              obtain ⟨h0, h1⟩ := hh.out
              clear hh
              have HO := hide ho
              have HG := hide hg
              obtain ⟨o0, o1, o2, f1, f2, lp, lg'⟩ := ho.cells hkN
              obtain ⟨_, _, e, hxb, hxc⟩ := (HSH.out.kept ho.be).rx.int (by rw [HLN.out.2.2.1]; omega)
              cases e
              have t0 := hxc k (by rw [HLN.out.2.2.1]; exact hkN)
              simp only [Nat.zero_add, iat] at t0
              rw [HY.out] at t0
              clear hxc ho hg
              have ik : (k : Int) < q := by omega
              have b0 : lo ≤ 725 := by
                rcases Int.lt_or_le 725 lo with h | h
                · have := sq_mono (a := 726) (b := lo) (by omega) (by omega)
                  omega
                · exact h
              have b1 := sq_mono (a := lo + 1) (b := 726) (by omega) (by omega)
              have b2 := Int.mul_nonneg (a := lo + 1) (b := lo + 1) (by omega) (by omega)
              have w1 : IntKind.i64.wrap (lo + 1) = lo + 1 := IntWalk.i64_in _ (by omega)
              have w2' : IntKind.i64.wrap ((lo + 1) * (lo + 1)) = (lo + 1) * (lo + 1) := IntWalk.i64_in _ (by omega)
              have w3 : better.tmod 3 = better % 3 := Int.tmod_eq_emod_of_nonneg (by omega)
              clear b2 b1
              go_upto_region 17 with fail
              go_cut [219] (fun c wx => c = .bool (decide ((lo + 1) * (lo + 1) ≤ y ∧ better % 3 = 0)) ∧ ∃ m, wx = V3.drewN m)
              case first =>
                as_aux_lemma =>
                  by_cases c1 : (lo + 1) * (lo + 1) ≤ y
                  · have d1 : decide ((lo + 1) * (lo + 1) ≤ y) = true := decide_eq_true c1
                    by_cases c2 : better % 3 = 0
                    · have d2 : (better % 3 == 0) = true := beq_iff_eq.2 c2
                      have HB := hide (And.intro c1 c2)
                      clear c1 c2
                      go_quiet (fail)
                      go_wp2_with fail
                      go_meet
                      exact ⟨congrArg Value.bool (decide_eq_true HB.out).symm, _, rfl⟩
                    · have d2 : (better % 3 == 0) = false := beq_eq_false_iff_ne.2 c2
                      have HB : Hid (¬ ((lo + 1) * (lo + 1) ≤ y ∧ better % 3 = 0)) := hide (fun h => c2 h.2)
                      clear c1 c2
                      go_quiet (fail)
                      go_wp2_with fail
                      go_meet
                      exact ⟨congrArg Value.bool (decide_eq_false HB.out).symm, _, rfl⟩
                  · have d1 : decide ((lo + 1) * (lo + 1) ≤ y) = false := decide_eq_false c1
                    have HB : Hid (¬ ((lo + 1) * (lo + 1) ≤ y ∧ better % 3 = 0)) := hide (fun h => c1 h.1)
                    clear c1
                    go_quiet (fail)
                    go_wp2_with fail
                    go_meet
                    exact ⟨congrArg Value.bool (decide_eq_false HB.out).symm, _, rfl⟩
              case rest =>
                obtain ⟨rfl, m, rfl⟩ := hcut
                have ho5 := HO.out.kept ((below_drewN (Below.refl _ _) m : Below V3.heap.size V3 (V3.drewN m)))
                clear HO o0 o1 o2 f1 f2 lp lg' hxb t0
                generalize V3.drewN m = V4 at *
                have HO5 := hide ho5
                obtain ⟨o0, o1, o2, f1, f2, lp, lg'⟩ := ho5.cells hkN
                clear ho5
                by_cases hc : (lo + 1) * (lo + 1) ≤ y ∧ better % 3 = 0
                · rw [decide_eq_true hc]
                  have HC2 := hide hc
                  clear hc
                  have HO6 := hide (HO5.out.lo (lo + 1))
                  go_wp2_with fail
                  go_roundg (1000 - (lo + 1)).toNat
                  case measure => have := HG.out; omega
                  case rel => exact ⟨lo + 1, hide ⟨by omega, HC2.out.1⟩, HO6.out, Nat.le_refl _⟩
                · rw [decide_eq_false hc]
                  clear hc
                  have hS := HSH.out.kept HO5.out.be
                  have hset := set_better HOK.out (k := k) (by rw [HLN.out.1]; exact hkN) HTRU.out (a := lo) (b := hi) (by rw [HLH.out.1]; exact HLO.out.1) (by rw [HLH.out.2]; exact HHI.out.2.1) (by rw [xF_nat, HY.out]; exact HLO.out.2) (by rw [xF_nat, HY.out]; exact HHI.out.2.2) HHI.out.1
                  obtain ⟨hok2, hl2, htru2, hsub⟩ := hset
                  have HSO := hide (sqR_tru hok2 htru2)
                  have HSB := hide (fun j (hj : j < n.sp.length) => sqR_sub HOK.out hok2 hl2 htru2 hsub (q := j) hj)
                  have HNO : Hid (NetIn (setSp n k (lo, hi)) (some ⟨g6, 0, none⟩) ta q T tcap V4) := hide (TwIn.o HSH.out HO5.out (by rw [List.length_set]; exact HLN.out.1))
                  have HLA : Hid ((narT (setSp n k (lo, hi)).ts (sqs (setSp n k (lo, hi)).sp)).length = q) := hide (by rw [narT_len, sqs_len, hl2, HLN.out.1])
                  obtain ⟨k0, k1, _⟩ := HO5.out.kp.two
                  have HS := hide hS
                  clear hok2 hl2 htru2 hsub hS o0 o1 o2 f1 f2 h0 h1 w1 w2' w3 b0 HG lg'
                  go_wp2_with fail
                  refine (squares_any (setSp n k (lo, hi)) (some ⟨g6, 0, none⟩) ta q c6 T tcap _ HNO.out).mono ?_
                  rintro e W5 ⟨v, rfl, hv, hb5⟩
                  rw [HSO.out.1] at hv ⊢
                  dsimp only at hv
                  obtain ⟨aa, ca, rfl, ra⟩ := own_row hv
                  rw [HLA.out]
                  have HS5 := hide (HS.out.kept hb5)
                  clear hv hb5 k0 k1 lp HNO HS HO5
                  have hbz : ∀ v : Value, Below W5.heap.size W5 (W5.alloc (.cells #[.slice (some ⟨gs, gso, none⟩) q scap, v] 25)) := fun v => (Below.refl _ _).alloc (Nat.le_refl _) _
                  have HBZ := hide hbz
                  clear hbz
                  obtain ⟨ga, gao, haa, hga, _⟩ := ra.span (by rw [HLA.out]; omega)
                  subst haa
                  obtain ⟨n0, n1, _⟩ := HS5.out.kn.two
                  have hnl := HS5.out.kn.lt
                  go_upto_if 240 with fail
                  go_cut [240] (fun _ wx => ∃ (ta2 : Option Addr) (T2 tc2 : Nat), wx = W5.alloc (.cells #[.slice (some ⟨gs, gso, none⟩) q scap, .slice ta2 T2 tc2] 25) ∧ NetIn ⟨n.sp, n.ts.take T2⟩ (some ⟨gs, gso, none⟩) ta2 q T2 tc2 wx)
                  case first =>
                    as_aux_lemma =>
                      rcases Nat.eq_zero_or_pos T with hT0 | hT0
                      · have d1 : decide (0 < (T : Int)) = false := decide_eq_false (by omega)
                        have d2 : decide (0 < T) = false := decide_eq_false (by omega)
                        have HNL := hide (netin_none (HS5.out.net.below (HBZ.out (.slice none 0 0))))
                        have hn0 : ¬ 0 < T := by omega
                        clear hT0
                        go_wp2_with fail
                        go_meet
                        exact ⟨none, 0, 0, rfl, HNL.out⟩
                      · obtain ⟨T', hT'⟩ : ∃ T', T = T' + 1 := ⟨T - 1, by omega⟩
                        have d1 : decide (0 < (T : Int)) = true := decide_eq_true (by omega)
                        have d2 : decide (0 < T) = true := decide_eq_true (by omega)
                        have e1 : ((T : Int) - 1) = (T' : Int) := by omega
                        have e2 : (T : Int) = (T' : Int) + 1 := by omega
                        have HNL := hide (netin_less (HS5.out.net.below (HBZ.out (.slice ta T' tcap))) T' (by omega))
                        have hTc : T ≤ tcap := HS5.out.net.htc
                        have hTc' : T' ≤ tcap := by omega
                        have wT : IntKind.i64.wrap ((T : Int) - 1) = (T' : Int) := by rw [e1]; exact IntWalk.i64_in _ (by omega)
                        clear hT' e1 e2
                        go_wp2_with fail
                        go_meet
                        exact ⟨ta, T', tcap, rfl, HNL.out⟩
                  case rest =>
                    as_aux_lemma =>
                      obtain ⟨ta2, T2, tc2, rfl, hnl⟩ := hcut
                      have HNL := hide hnl
                      clear hnl
                      have HSL2 := hide (sqR_tru (nok_sub HOK.out T2) (tru_sub HTRU.out T2))
                      have HSB2 := hide (fun j (hj : j < n.sp.length) => sqR_sub (n := ⟨n.sp, n.ts.take T2⟩) (nok_sub HOK.out T2) HOK.out rfl HTRU.out (fun Y hY => tru_sub hY T2) (q := j) hj)
                      have HLB : Hid ((narT (n.ts.take T2) (sqs n.sp)).length = q) := hide (by rw [narT_len, sqs_len, HLN.out.1])
                      go_wp2_with fail
                      refine (squares_any ⟨n.sp, n.ts.take T2⟩ (some ⟨gs, gso, none⟩) ta2 q scap T2 tc2 _ HNL.out).mono ?_
                      rintro e W6 ⟨v, rfl, hv, hb6⟩
                      rw [HSL2.out.1] at hv ⊢
                      dsimp only at hv
                      obtain ⟨ba, cbb, rfl, rb⟩ := own_row hv
                      dsimp only
                      rw [HLB.out]
                      obtain ⟨gb, gbo, hba, hgb, _⟩ := rb.span (by rw [HLB.out]; omega)
                      subst hba
                      have hb56 := (HBZ.out (.slice ta2 T2 tc2)).trans (hb6.mono (HBZ.out (.slice ta2 T2 tc2)).size)
                      have HS6 := HS5.out.kept hb56
                      have ra6 := row_keep ra hb56
                      have HQ2 : Hid (∀ j, j < q → ((narT (setSp n k (lo, hi)).ts (sqs (setSp n k (lo, hi)).sp)).getD j (0, 0)).1 ≤ X.getD j 0 ∧ X.getD j 0 ≤ ((narT (setSp n k (lo, hi)).ts (sqs (setSp n k (lo, hi)).sp)).getD j (0, 0)).2 ∧
                          (L.getD j (0, 0)).1 ≤ ((narT (setSp n k (lo, hi)).ts (sqs (setSp n k (lo, hi)).sp)).getD j (0, 0)).1 ∧ ((narT (setSp n k (lo, hi)).ts (sqs (setSp n k (lo, hi)).sp)).getD j (0, 0)).2 ≤ (L.getD j (0, 0)).2 ∧
                          ((narT (n.ts.take T2) (sqs n.sp)).getD j (0, 0)).1 ≤ (L.getD j (0, 0)).1 ∧ (L.getD j (0, 0)).2 ≤ ((narT (n.ts.take T2) (sqs n.sp)).getD j (0, 0)).2) := hide (fun j hj => by
                        have hj' : j < n.sp.length := by rw [HLN.out.1]; exact hj
                        have h1 := HSO.out.2 j (by show j < (n.sp.set k (lo, hi)).length; rw [List.length_set]; exact hj')
                        have h2 := HSB.out j hj'
                        have h3 := HSB2.out j hj'
                        rw [xF_nat] at h1
                        rw [HL.out] at h2 h3
                        exact ⟨h1.1, h1.2, h2.1, h2.2, h3.1, h3.2⟩)
                      have rb' := rb
                      clear hv hb6 hb56 HSO HSB HSL2 HSB2 HNL ra rb
                      obtain ⟨A, hA⟩ : ∃ A, narT (setSp n k (lo, hi)).ts (sqs (setSp n k (lo, hi)).sp) = A := ⟨_, rfl⟩
                      obtain ⟨B, hB⟩ : ∃ A, narT (n.ts.take T2) (sqs n.sp) = A := ⟨_, rfl⟩
                      rw [hA] at HQ2 HLA ra6
                      have rb6 : Row W6 W6.heap.size (some ⟨gb, gbo, none⟩) (spans (narT (n.ts.take T2) (sqs n.sp))) := rb'
                      rw [hB] at HQ2 HLB rb6
                      clear hA hB
                      have HSF : Hid (TwF w (some ⟨gl, glo, none⟩) L (some ⟨ga, gao, none⟩) A (some ⟨gb, gbo, none⟩) B (some ⟨gx, 0, none⟩) X W6) := hide ⟨HS6.rl, ra6, rb6, HS6.rx, HS6.be⟩
                      clear HS6 ra6 rb6 rb' HS5
                      go_wp2_with fail
                      go_loopw [276] (fun i wr => ∃ j : Nat, j ≤ q ∧ i = .int .i64 (j : Int) ∧ TwF w (some ⟨gl, glo, none⟩) L (some ⟨ga, gao, none⟩) A (some ⟨gb, gbo, none⟩) B (some ⟨gx, 0, none⟩) X wr) (fun i _ => q - (intOf i).toNat)
                      case atStart => exact ⟨0, Nat.zero_le _, rfl, HSF.out⟩
                      case round =>
                        rename World => wr
                        clear HSF
                        obtain ⟨j, hj, rfl, hsh⟩ := hrel
                        have HSH := hide hsh
                        by_cases hlt : j < q
                        · as_aux_lemma =>
                            obtain ⟨_, _, e, hlb, hlc⟩ := hsh.rl.span (by rw [HLN2.out.1]; omega)
                            cases e
                            obtain ⟨_, _, e, hab, hac⟩ := hsh.ra.span (by rw [HLA.out]; omega)
                            cases e
                            obtain ⟨_, _, e, hbb, hbc⟩ := hsh.rb.span (by rw [HLB.out]; omega)
                            cases e
                            obtain ⟨_, _, e, htb, htc⟩ := hsh.rx.int (by rw [HLN.out.2.2.1]; omega)
                            cases e
                            obtain ⟨l0, l1⟩ := hlc j (by rw [HLN2.out.1]; exact hlt)
                            obtain ⟨a0, a1⟩ := hac j (by rw [HLA.out]; exact hlt)
                            obtain ⟨b0, b1⟩ := hbc j (by rw [HLB.out]; exact hlt)
                            have t0 := htc j (by rw [HLN.out.2.2.1]; exact hlt)
                            simp only [Nat.zero_add, iat] at t0
                            have hq' := HQ2.out j hlt
                            clear hlc hac hbc htc hsh
                            rw [show (L.getD j (0, 0)).1 = los L j from rfl, show (L.getD j (0, 0)).2 = his L j from rfl, show (A.getD j (0, 0)).1 = los A j from rfl, show (A.getD j (0, 0)).2 = his A j from rfl, show (B.getD j (0, 0)).1 = los B j from rfl, show (B.getD j (0, 0)).2 = his B j from rfl] at hq'
                            generalize X.getD j 0 = y' at *
                            generalize los L j = ll at *
                            generalize his L j = lh at *
                            generalize los A j = al at *
                            generalize his A j = ah at *
                            generalize los B j = bl at *
                            generalize his B j = bh at *
                            obtain ⟨p0, p1, p2, p3, p4, p5⟩ := hq'
                            have HI : Hid ((decide (al ≤ y') && decide (y' ≤ ah)) = true) := hide (by rw [decide_eq_true p0, decide_eq_true p1]; rfl)
                            have d3 : decide (al < ll) = false := decide_eq_false (by omega)
                            have d4 : decide (lh < ah) = false := decide_eq_false (by omega)
                            have d5 : decide (ll < bl) = false := decide_eq_false (by omega)
                            have d6 : decide (bh < lh) = false := decide_eq_false (by omega)
                            have ik : (j : Int) < q := by omega
                            have HW := hide (fun X : Ext wr => Ext.call (within_any al ah y' X.w))
                            rw [HI.out] at HW
                            have hX := @Ext.cell wr
                            clear p0 p1 p2 p3 p4 p5
                            go_wp2_with fail
                            refine wp_region_all (Ext.w (W := wr)) (by kernel_rfl) (by kernel_rfl) (Ext.start wr) ?_
                            repeat (first | go_big_quiet_skip | quiet_step (first | (go_at_call 42; with_reducible exact HW.out _)))
                            refine wpQuiet_nil ?_
                            intro X'
                            have hsh := HSH.out.kept X'.below
                            go_wp2_with fail
                            exact ⟨⟨j + 1, by omega, by go_num, hsh⟩, by simp [intOf]; omega⟩
                        · have hB9 := hsh.be
                          clear hsh HSH
                          go_wp2_with fail
                          refine (works_any _).mono ?_
                          rintro e W9 ⟨rfl, hb9⟩
                          go_wp2_with fail
                          go_ret
                          exact ⟨rfl, hB9.trans (hb9.mono hB9.size)⟩

end Go.Proofs.Ytlbhnicengolfaa
