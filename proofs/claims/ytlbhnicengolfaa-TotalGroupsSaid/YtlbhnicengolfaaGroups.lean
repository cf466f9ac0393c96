/-
  TotalGroups: the walk.
-/
import Derived.Test.YtlbhnicengolfaaSharp
import Derived.Test.YtlbhnicengolfaaTruthP
import Derived.Test.YtlbhnicengolfaaClash
namespace Go.Proofs.Ytlbhnicengolfaa
open Go.RowKit
set_option linter.unusedVariables false
set_option linter.unusedSimpArgs false

theorem bit_u8 : ∀ m : Fin 256, ∀ i : Fin 5, (bits BinOp.and IntKind.u8 (((m : Nat) : Int) / 2 ^ (i : Nat)) 1 == 1) = (m : Nat).testBit (i : Nat) := by decide +kernel

theorem addA_B {M : Int} {xs : List Int} (h : XB M xs) (q : Int) (h0 : 0 ≤ M) : XB (M + 1) (addA xs q 1) := by
  have := h q.toNat
  exact (h.mono (by omega)).set _ (by omega) (by omega)
theorem XB.addA1' {M : Int} {xs : List Int} (h : XB M xs) (h0 : 0 ≤ M) (q : Int) : XB (M + 1) (addA xs q 1) := addA_B h q h0
theorem XB.addA1 {M : Int} {xs : List Int} (h : XB M xs) (h0 : 0 ≤ M) (q : Int) (p : Nat) : 0 ≤ (addA xs q 1).getD p 0 ∧ (addA xs q 1).getD p 0 ≤ M + 1 := addA_B h q h0 p
theorem cntG_B (ts : List Tri) (m N : Nat) : ∀ k : Nat, XB (3 * (k : Int)) (cntG ts m N k)
  | 0 => fun i => by
    unfold cntG
    rw [List.getD_eq_getElem?_getD, List.getElem?_replicate]
    split <;> simp
  | k + 1 => by
    have ih := cntG_B ts m N k
    unfold cntG
    split
    · have := addA_B (addA_B (addA_B ih (tri ts k).1 (by omega)) (tri ts k).2.1 (by omega)) (tri ts k).2.2 (by omega)
      exact this.mono (by omega)
    · exact ih.mono (by omega)
theorem ints_add (xs : List Int) (q : Int) : (ints xs).toArray.setIfInBounds q.toNat (.int .i64 (xs.getD q.toNat 0 + 1)) = (ints (addA xs q 1)).toArray := by rw [ints_set]; rfl
theorem ints_cell {W : World} {b : Nat} {xs : List Int} {q : Nat} (h : Blk W b (ints xs).toArray 3) (hq : q < xs.length) : W.cell? ⟨b, q, none⟩ = some (.int .i64 (xs.getD q 0)) ∧ W.frozen? ⟨b, q, none⟩ = false := by
  refine ⟨?_, h.frozen q⟩
  rw [h.cell q]
  simp [ints, List.getD, hq]

theorem cnt_steps {W : World} {cb tb : Nat} {C : List Int} {x y z u0 u1 u2 : Int} (hx : 0 ≤ x ∧ x < (C.length : Int)) (hy : 0 ≤ y ∧ y < (C.length : Int)) (hz : 0 ≤ z ∧ z < (C.length : Int)) (kc : Blk W cb (ints C).toArray 3)
    (kt : Blk W tb #[.int .i64 x, .int .i64 y, .int .i64 z] 75) (hne : tb ≠ cb) (h0 : C.getD x.toNat 0 = u0) (h1 : (addA C x 1).getD y.toNat 0 = u1) (h2 : (addA (addA C x 1) y 1).getD z.toNat 0 = u2) :
    (tb < W.heap.size ∧ cb < W.heap.size ∧ W.cell? ⟨tb, 0, none⟩ = some (.int .i64 x) ∧ W.cell? ⟨cb, x.toNat, none⟩ = some (.int .i64 u0) ∧ W.frozen? ⟨cb, x.toNat, none⟩ = false) ∧
    (tb < (W.setCell ⟨cb, x.toNat, none⟩ (.int .i64 (u0 + 1))).heap.size ∧ cb < (W.setCell ⟨cb, x.toNat, none⟩ (.int .i64 (u0 + 1))).heap.size ∧ (W.setCell ⟨cb, x.toNat, none⟩ (.int .i64 (u0 + 1))).cell? ⟨tb, 1, none⟩ = some (.int .i64 y) ∧
      (W.setCell ⟨cb, x.toNat, none⟩ (.int .i64 (u0 + 1))).cell? ⟨cb, y.toNat, none⟩ = some (.int .i64 u1) ∧ (W.setCell ⟨cb, x.toNat, none⟩ (.int .i64 (u0 + 1))).frozen? ⟨cb, y.toNat, none⟩ = false) ∧
    (tb < ((W.setCell ⟨cb, x.toNat, none⟩ (.int .i64 (u0 + 1))).setCell ⟨cb, y.toNat, none⟩ (.int .i64 (u1 + 1))).heap.size ∧ cb < ((W.setCell ⟨cb, x.toNat, none⟩ (.int .i64 (u0 + 1))).setCell ⟨cb, y.toNat, none⟩ (.int .i64 (u1 + 1))).heap.size ∧
      ((W.setCell ⟨cb, x.toNat, none⟩ (.int .i64 (u0 + 1))).setCell ⟨cb, y.toNat, none⟩ (.int .i64 (u1 + 1))).cell? ⟨tb, 2, none⟩ = some (.int .i64 z) ∧
      ((W.setCell ⟨cb, x.toNat, none⟩ (.int .i64 (u0 + 1))).setCell ⟨cb, y.toNat, none⟩ (.int .i64 (u1 + 1))).cell? ⟨cb, z.toNat, none⟩ = some (.int .i64 u2) ∧
      ((W.setCell ⟨cb, x.toNat, none⟩ (.int .i64 (u0 + 1))).setCell ⟨cb, y.toNat, none⟩ (.int .i64 (u1 + 1))).frozen? ⟨cb, z.toNat, none⟩ = false) ∧
    Blk (((W.setCell ⟨cb, x.toNat, none⟩ (.int .i64 (u0 + 1))).setCell ⟨cb, y.toNat, none⟩ (.int .i64 (u1 + 1))).setCell ⟨cb, z.toNat, none⟩ (.int .i64 (u2 + 1))) cb (ints (cntT C (x, y, z))).toArray 3 := by
  have kt7 := kt.other (p := ⟨cb, x.toNat, none⟩) hne (.int .i64 (u0 + 1))
  have kc7 : Blk (W.setCell ⟨cb, x.toNat, none⟩ (.int .i64 (u0 + 1))) cb (ints (addA C x 1)).toArray 3 := by
    have := kc.set x.toNat (.int .i64 (u0 + 1))
    rw [← h0, ints_add, h0] at this
    exact this
  have kt8 := kt7.other (p := ⟨cb, y.toNat, none⟩) hne (.int .i64 (u1 + 1))
  have kc8 : Blk ((W.setCell ⟨cb, x.toNat, none⟩ (.int .i64 (u0 + 1))).setCell ⟨cb, y.toNat, none⟩ (.int .i64 (u1 + 1))) cb (ints (addA (addA C x 1) y 1)).toArray 3 := by
    have := kc7.set y.toNat (.int .i64 (u1 + 1))
    rw [← h1, ints_add, h1] at this
    exact this
  obtain ⟨a0, _, _⟩ := kt.three
  obtain ⟨_, a1, _⟩ := kt7.three
  obtain ⟨_, _, a2, _⟩ := kt8.three
  obtain ⟨b0, f0⟩ := ints_cell kc (q := x.toNat) (by omega)
  obtain ⟨b1, f1⟩ := ints_cell kc7 (q := y.toNat) (by rw [addA_len]; omega)
  obtain ⟨b2, f2⟩ := ints_cell kc8 (q := z.toNat) (by rw [addA_len, addA_len]; omega)
  rw [h0] at b0
  rw [h1] at b1
  rw [h2] at b2
  refine ⟨⟨kt.lt, kc.lt, a0, b0, f0⟩, ⟨kt7.lt, kc7.lt, a1, b1, f1⟩, ⟨kt8.lt, kc8.lt, a2, b2, f2⟩, ?_⟩
  have := kc8.set z.toNat (.int .i64 (u2 + 1))
  rw [← h2, ints_add, h2] at this
  exact this

theorem ordOk_bits : ∀ t : Fin 4, ∀ m : Fin 8, ordOk ((t : Nat) : Int) (-1) (bitsK m t) = 0 := by decide +kernel
theorem eqR_bits {n : TNet} {T m N : Nat} (hk : checkT n = 0) (ht : n.ts.length = T) (h3 : T ≤ 3) (hN : n.sp.length = N) :
    eqR n (bitsK m T) = if (bitsK m T).length = 0 then ([], 2) else if (grpR n.ts (bitsK m T) N).2 = true then ((grpR n.ts (bitsK m T) N).1, 0) else ([], 4) := by
  have ho : ordOk (n.ts.length : Int) (-1) (bitsK m T) = 0 := by
    rw [bitsK_mod h3, ht]
    exact ordOk_bits ⟨T, by omega⟩ ⟨m % 8, by omega⟩
  unfold eqR
  rw [if_neg (by rw [hk]; simp)]
  split
  · rfl
  · rw [if_neg (by rw [ho]; simp), hN]
theorem mostK_B {C : List Int} (h : XB 9 C) : ∀ k, 0 ≤ mostK C k ∧ mostK C k ≤ 9
  | 0 => by simp [mostK]
  | k + 1 => by
    have ih := mostK_B h k
    have := h k
    rw [mostK_snoc]
    omega
theorem sharK_B {C : List Int} (h : XB 9 C) : ∀ k : Nat, 0 ≤ sharK C k ∧ sharK C k ≤ 9 * (k : Int)
  | 0 => by simp [sharK]
  | k + 1 => by
    have ih := sharK_B h k
    have := h k
    rw [sharK_snoc]
    omega
theorem dotK_B {R : List Int} {x : Nat → Int} {N : Nat} (h : ∀ q, q < N → R.getD q 0 = 1 ∨ R.getD q 0 = -1 ∨ R.getD q 0 = 0) (hx : ∀ i, 0 ≤ x i ∧ x i ≤ 524280) : ∀ k : Nat, k ≤ N → -524280 * (k : Int) ≤ dotK R x k ∧ dotK R x k ≤ 524280 * (k : Int)
  | 0, _ => by simp [dotK]
  | k + 1, hk => by
    have ih := dotK_B h hx k (by omega)
    have h1 := h k (by omega)
    have h2 := hx k
    rw [dotK_snoc]
    rcases h1 with e | e | e <;> rw [e] <;> omega

/-- What is known while triangles are counted: counts at cb, the group at v. -/
structure GcIn (w : World) (n : TNet) (sa : Option Addr) (scap : Nat) (ta : Option Addr) (N T tcap nb : Nat) (xs : List Int) (xa : Option Addr) (cb : Nat) (C gl : List Int) (v : Value) (wr : World) : Prop where
  kn : Blk wr nb #[.slice sa N scap, .slice ta T tcap] 25
  rx : Row wr cb xa (ints xs)
  rs : Row wr cb sa (spans n.sp)
  rt : Row wr cb ta (tris n.ts)
  kc : Blk wr cb (ints C).toArray 3
  own : wr.ownsRow (cb + 1) 3 1 v gl.length (ints gl)
  be : Below w.heap.size w wr
  hn : w.heap.size ≤ nb
  hb : nb < cb
section
variable {w : World} {n : TNet} {sa : Option Addr} {scap : Nat} {ta : Option Addr} {N T tcap nb : Nat} {xs : List Int} {xa : Option Addr} {cb : Nat} {C gl C' gl' : List Int} {v v' : Value} {wr W : World}
theorem GcIn.step (h : GcIn w n sa scap ta N T tcap nb xs xa cb C gl v wr) (hb : Below cb wr W) (hk : Blk W cb (ints C').toArray 3) (ho : W.ownsRow (cb + 1) 3 1 v' gl'.length (ints gl')) : GcIn w n sa scap ta N T tcap nb xs xa cb C' gl' v' W :=
  ⟨h.kn.below hb h.hb, h.rx.below hb (Nat.le_refl _), h.rs.below hb (Nat.le_refl _), h.rt.below hb (Nat.le_refl _), hk, ho, h.be.trans (hb.mono (by have := h.hn; have := h.hb; omega)), h.hn, h.hb⟩
theorem GcIn.kept (h : GcIn w n sa scap ta N T tcap nb xs xa cb C gl v wr) (hb : Below wr.heap.size wr W) : GcIn w n sa scap ta N T tcap nb xs xa cb C gl v W :=
  h.step (hb.mono (by have := h.kc.lt; omega)) (h.kc.kept hb) (own_kept h.own hb)
theorem GcIn.net (h : GcIn w n sa scap ta N T tcap nb xs xa cb C gl v wr) {V : World} (hn : NetIn n sa ta N T tcap V) : NetIn n sa ta N T tcap wr :=
  ⟨hn.hsn, hn.htn, hn.htc, hn.htc2, hn.hl, hn.hl2, h.rs.mono (by have := h.kc.lt; omega), h.rt.mono (by have := h.kc.lt; omega)⟩
end

attribute [local go_sem high] maxI in
set_option maxRecDepth 100000 in
set_option maxHeartbeats 8000000 in
theorem groups_law (s : TSky) (lg : Nat → Int) (set : Int) (la : Option Addr) (ln lc : Nat) (w : World) (hs : SkyOk s) (hlg : LegOk lg) (hw0 : 0 ≤ set) (hw1 : set ≤ 255) (hln : ln = s.lk.length) (hl : ln ≤ 9223372036854775807) (hrow : Row w w.heap.size la (u8p s.lk)) :
    Calls Try.prog 10 #[.agg (skyC la ln lc s), .agg (legC lg), .int .u8 set] w fun e w' => e = .returned (.bool true) ∧ Below w.heap.size w w' := by
  obtain ⟨m, rfl⟩ : ∃ m : Nat, set = (m : Int) := ⟨set.toNat, by omega⟩
  have hok := skyTru_ok hs hlg
  have hck := check_of hok
  have htru := skyTru_true hs hlg
  have HSG := hide (fun (h : (bitsK m (skyK s)).length ≠ 0) => sky_grp s h)
  have HM := hide (fun (W : World) (hb : Below w.heap.size w W) => tru_net s lg la ln lc W hs hlg hln hl ((hrow.below hb (Nat.le_refl _)).mono hb.size))
  have HLN : Hid ((skyTru s lg).sp.length = 1 + 2 * skyK s ∧ (skyTru s lg).ts.length = skyK s ∧ (skyX s lg).length = 1 + 2 * skyK s) := hide ⟨by simp [skyTru], skyTs_len _ _, skyX_len s lg⟩
  have HIN := hide (nok_in hok)
  have HOK := hide hok
  have HCK := hide hck
  have HTRU := hide htru
  have HXB : Hid (XB 524280 (skyX s lg)) := hide (by have := skyX_B s hlg (Nat.le_refl (skyK s)); rwa [List.take_of_length_le (by rw [show (skyNet s).ts.length = skyK s from skyTs_len _ _]; exact Nat.le_refl _)] at this)
  have HTS : Hid ((skyNet s).ts = (skyTru s lg).ts) := hide rfl
  rw [HTS.out] at HSG
  have hk7 : skyK s ≤ 3 := by unfold skyK; omega
  clear hs hlg hln hrow hok hck htru HTS
  generalize skyTru s lg = n at *
  generalize skyX s lg = X at *
  generalize skyK s = T at *
  obtain ⟨N, hN⟩ : ∃ N, N = 1 + 2 * T := ⟨_, rfl⟩
  rw [← hN] at HM HLN HSG
  have HN := hide hN
  have hN1 : 1 ≤ N := by omega
  have hN7 : N ≤ 7 := by omega
  clear hN
  unfold skyC legC
  go_enter Try.func10, Try.ntmps10
  go_wp2_with fail
  generalize hW : World.alloc (World.alloc w _) _ = V
  have hbV : Below w.heap.size w V := by rw [← hW]; exact ((Below.refl _ _).alloc (Nat.le_refl _) _).alloc (by simp) _
  clear hW
  refine (HM.out V hbV).mono ?_
  rintro e W1 ⟨sa, scap, ta, tcap, gx, rfl, hnet, rx, hb1⟩
  have hB1 := hbV.trans (hb1.mono hbV.size)
  clear hbV hb1
  have hnet := hnet.below ((Below.refl _ _).alloc (Nat.le_refl _) (.cells #[.slice sa N scap, .slice ta T tcap] 25))
  have rx := row_keep rx ((Below.refl _ _).alloc (Nat.le_refl _) (.cells #[.slice sa N scap, .slice ta T tcap] 25))
  have kn := Blk.new W1 #[.slice sa N scap, .slice ta T tcap] 25
  have hB2 := hB1.alloc hB1.size (.cells #[.slice sa N scap, .slice ta T tcap] 25)
  have hs1 := hB1.size
  clear hB1
  obtain ⟨i0, hi, hz0, hz1, hz2⟩ := info_int
  have hmk : ∀ w, (Instr.makeSlice 38 (.int .i64 (N : Int)) (.int .i64 (N : Int))).run Try.prog w = .ok (.slice (some ⟨w.heap.size, 0, none⟩) N N) (w.alloc (.cells (ints (List.replicate N 0)).toArray 3)) := fun w => by
    rw [← made_ints]
    exact run_make_row (P := Try.prog) 38 3 i0 _ under_ints hi hz0 hz1 rfl .i64 .i64 N (by rw [hz2]; omega) (by omega) w
  have HI := hide hi
  clear hi
  obtain ⟨n0, n1, _⟩ := kn.two
  have ln0 := kn.lt
  go_wp2_with fail
  have HMK := hide hmk
  clear hmk n0 n1 ln0
  generalize hV2 : World.alloc W1 _ = V2 at *
  have hs2 : V2.heap.size = W1.heap.size + 1 := by rw [← hV2]; exact sz1 _ _
  clear hV2
  obtain ⟨cb, hcb⟩ : ∃ cb, W1.heap.size + 1 = cb := ⟨_, rfl⟩
  rw [hcb] at hs2 ⊢
  have HCB := hide (hs2.trans rfl)
  have hcb2 : W1.heap.size < cb := by omega
  clear hcb hs2
  generalize hV3 : World.alloc V2 _ = V3 at *
  have hgc : GcIn w n sa scap ta N T tcap W1.heap.size X (some ⟨gx, 0, none⟩) cb (cntG n.ts m N 0) (bitsK m 0) (.slice none 0 0) V3 := by
    have hb3 : Below V2.heap.size V2 V3 := by rw [← hV3]; exact (Below.refl _ _).alloc (Nat.le_refl _) _
    have hs3 : V3.heap.size = V2.heap.size + 1 := by rw [← hV3]; exact sz1 _ _
    have hcb := HCB.out
    exact ⟨kn.kept hb3, by rw [← hcb]; exact rx.below hb3 (Nat.le_refl _), by rw [← hcb]; exact hnet.rs.below hb3 (Nat.le_refl _), by rw [← hcb]; exact hnet.rt.below hb3 (Nat.le_refl _),
      by rw [← hV3, ← hcb]; exact Blk.new _ _ _, World.ownsRow_nil _ _ _ _, hB2.trans (hb3.mono hB2.size), hs1, hcb2⟩
  have HGC := hide hgc
  have HNET := hide hnet
  clear hgc hV3 hnet rx kn hB2 hs1
  obtain ⟨n0, n1, _⟩ := HGC.out.kn.two
  have ln0 := HGC.out.kn.lt
  go_loopw [9, 35] (fun v ix wr => ∃ i : Nat, i ≤ T ∧ ix = .int .i64 (i : Int) ∧ GcIn w n sa scap ta N T tcap W1.heap.size X (some ⟨gx, 0, none⟩) cb (cntG n.ts m N i) (bitsK m i) v wr) (fun _ ix _ => T - (intOf ix).toNat)
  case atStart => exact ⟨0, Nat.zero_le _, rfl, HGC.out⟩
  case round =>
    clear HGC n0 n1 ln0
    obtain ⟨i, hi, rfl, hgc⟩ := hrel
    have HGC := hide hgc
    by_cases hlt : i < T
    · obtain ⟨tb, toff, hta, htb, htc⟩ := hgc.rt.tri (by have := HLN.out.2.1; omega)
      obtain ⟨t0, t1, t2⟩ := htc i (by rw [HLN.out.2.1]; exact hlt)
      have hin := HIN.out (tri n.ts i) (by rw [tri_eq (by rw [HLN.out.2.1]; exact hlt)]; exact List.getElem_mem _)
      have hsz := hgc.kc.lt
      have bit := bit_u8 ⟨m, by omega⟩ ⟨i, by omega⟩
      dsimp only at bit
      have HTR : Hid (tri n.ts i = tri n.ts i) := hide rfl
      have HCS : Hid (cntG n.ts m N (i + 1) = if m.testBit i then cntT (cntG n.ts m N i) (tri n.ts i) else cntG n.ts m N i) := hide rfl
      have HCL := hide (cntG_len n.ts m N i)
      have HCB2 := hide (cntG_B n.ts m N i)
      have HOW := hide hgc.own
      have HKC := hide hgc.kc
      obtain ⟨n0, n1, _⟩ := hgc.kn.two
      have ln0 := hgc.kn.lt
      clear hgc htc HTR
      subst hta
      generalize tri n.ts i = t at *
      obtain ⟨x0, y0, z0⟩ := t
      have hx := hin x0 (by simp [cor])
      have hy := hin y0 (by simp [cor])
      have hz := hin z0 (by simp [cor])
      rw [HLN.out.1] at hx hy hz
      obtain ⟨hx0, hx1⟩ := hx
      obtain ⟨hy0, hy1⟩ := hy
      obtain ⟨hz0', hz1'⟩ := hz
      dsimp only at t0 t1 t2
      clear hin
      obtain ⟨C, hC⟩ : ∃ C, cntG n.ts m N i = C := ⟨_, rfl⟩
      rw [hC] at HCS HCL HCB2 HKC
      have HC := hide hC
      clear hC
      obtain ⟨M, hM⟩ : ∃ M, M = (bitsK m i).length := ⟨_, rfl⟩
      have HLE := hide (bitsK_len m i)
      rw [← hM] at HOW HLE
      have HM' := hide hM
      clear hM
      have hM5 : M ≤ 3 := by have := HLE.out; omega
      obtain ⟨V4, hV4⟩ : ∃ V4, wr.alloc (.cells #[.int .i64 x0, .int .i64 y0, .int .i64 z0] 75) = V4 := ⟨_, rfl⟩
      have hb4 : Below wr.heap.size wr V4 := by rw [← hV4]; exact (Below.refl _ _).alloc (Nat.le_refl _) _
      have hs4 : V4.heap.size = wr.heap.size + 1 := by rw [← hV4]; exact sz1 _ _
      have kt4 : Blk V4 wr.heap.size #[.int .i64 x0, .int .i64 y0, .int .i64 z0] 75 := by rw [← hV4]; exact Blk.new _ _ _
      obtain ⟨p0, p1, p2, _⟩ := kt4.three
      have lt4 := kt4.lt
      have HS4 := hide hs4
      have hs4' : cb + 1 ≤ V4.heap.size := by omega
      clear hs4
      cases ht : m.testBit i with
      | true =>
        have HS := hide (bitsK_yes ht)
        rw [ht] at bit
        have HCS2 : Hid (cntG n.ts m N (i + 1) = cntT C (x0, y0, z0)) := hide (by rw [HCS.out, if_pos ht])
        clear ht
        have HO4 := hide (own_kept HOW.out hb4)
        have HC6 := hide (fun (W6 : World) (h6 : Below (cb + 1) wr W6) => HKC.out.below h6 (Nat.lt_succ_self _))
        have b0 := HCB2.out x0.toNat
        have b1 := XB.addA1 HCB2.out (by omega) x0 y0.toNat
        have b2 := XB.addA1 (XB.addA1' HCB2.out (by omega) x0) (by omega) y0 z0.toNat
        obtain ⟨u0, hu0⟩ : ∃ u, C.getD x0.toNat 0 = u := ⟨_, rfl⟩
        obtain ⟨u1, hu1⟩ : ∃ u, (addA C x0 1).getD y0.toNat 0 = u := ⟨_, rfl⟩
        obtain ⟨u2, hu2⟩ : ∃ u, (addA (addA C x0 1) y0 1).getD z0.toNat 0 = u := ⟨_, rfl⟩
        rw [hu0] at b0
        rw [hu1] at b1
        rw [hu2] at b2
        obtain ⟨b00, b01⟩ := b0
        obtain ⟨b10, b11⟩ := b1
        obtain ⟨b20, b21⟩ := b2
        have HSTEP := hide (fun (W6 : World) (kc : Blk W6 cb (ints C).toArray 3) (kt : Blk W6 wr.heap.size #[.int .i64 x0, .int .i64 y0, .int .i64 z0] 75) => cnt_steps ⟨hx0, by rw [HCL.out]; exact hx1⟩ ⟨hy0, by rw [HCL.out]; exact hy1⟩ ⟨hz0', by rw [HCL.out]; exact hz1'⟩ kc kt (by omega) hu0 hu1 hu2)
        clear hu0 hu1 hu2 p0 p1 p2 lt4
        go_wp2_with (
          at_builtin
          refine wpList_append_lies _ rfl (.tmp 45) (.tmp 47) 38 rfl (cb + 1) 3 i0 (.int .i64 0) 1 8 under_ints HI.out hz0 hz1 hz2 rfl (by decide) _ M (ints (bitsK m i)) rfl (HO4.out.alloc _) ⟨V4.heap.size, 0, none⟩ 1 1 [.int .i64 (i : Int)] rfl rfl
            (World.news_of_block (cs := #[.int .i64 (i : Int)]) (t := 3) (fr := (0, 0)) (Blk.newAt (by simp) _ _)) (by intro u hu; simp at hu; subst hu; rfl) (by decide) (by unfold maxLen; omega) (by omega) (by simp; omega) _ rfl ?_
          intro g2 cap2 W6 ow6 gr6 at6 lt6
          have gr7 : World.grownBy (V4.alloc (.cells #[.int .i64 (i : Int)] 3)) W6 u9.ownBlock := gr6
          clear gr6 at6
          have kt6 := blk_grown (kt4.alloc (.cells #[.int .i64 (i : Int)] 3)) gr7 (fun j e => ownBlk (g := j) (hv := e) (HO4.out.alloc (.cells #[.int .i64 (i : Int)] 3)) (kt4.alloc (.cells #[.int .i64 (i : Int)] 3)) (by decide))
          have hB6 : Below (cb + 1) wr W6 := below_own (((hb4.mono hsz).alloc hs4' _)) (HO4.out.alloc (.cells #[.int .i64 (i : Int)] 3)) (Nat.le_refl _) (by rw [sz1]; omega) gr7
          obtain ⟨⟨l00, l01, q00, q01, f00⟩, ⟨l10, l11, q10, q11, f10⟩, ⟨l20, l21, q20, q21, f20⟩, kcF⟩ := HSTEP.out W6 (HC6.out W6 hB6) kt6
          clear gr7 kt6)
        have hBF : Below cb wr (((W6.setCell ⟨cb, x0.toNat, none⟩ (.int .i64 (u0 + 1))).setCell ⟨cb, y0.toNat, none⟩ (.int .i64 (u1 + 1))).setCell ⟨cb, z0.toNat, none⟩ (.int .i64 (u2 + 1))) :=
          (((hB6.mono (Nat.le_succ _)).setCell (p := ⟨cb, x0.toNat, none⟩) (Nat.le_refl _) _).setCell (p := ⟨cb, y0.toNat, none⟩) (Nat.le_refl _) _).setCell (p := ⟨cb, z0.toNat, none⟩) (Nat.le_refl _) _
        have hoF := ownsRow_setCell_below (ownsRow_setCell_below (ownsRow_setCell_below ow6 (a := ⟨cb, x0.toNat, none⟩) (Nat.lt_succ_self _) (.int .i64 (u0 + 1))) (a := ⟨cb, y0.toNat, none⟩) (Nat.lt_succ_self _) (.int .i64 (u1 + 1))) (a := ⟨cb, z0.toNat, none⟩) (Nat.lt_succ_self _) (.int .i64 (u2 + 1))
        exact ⟨⟨i + 1, by omega, by go_num, by rw [HCS2.out, HS.out]; exact HGC.out.step hBF kcF (by rw [List.length_append, ← HM'.out, ints_append]; exact hoF)⟩, by simp [intOf]; omega⟩
      | false =>
        have HS := hide (bitsK_no ht)
        have HCS2 : Hid (cntG n.ts m N (i + 1) = C) := hide (by rw [HCS.out, if_neg (by rw [ht]; simp)])
        rw [ht] at bit
        clear ht
        go_wp2_with fail
        exact ⟨⟨i + 1, by omega, by go_num, by rw [HCS2.out, HS.out, ← HC.out]; exact HGC.out.kept hb4⟩, by simp [intOf]; omega⟩
    · have hiT : i = T := by omega
      subst hiT
      have hsz := hgc.kc.lt
      obtain ⟨n0, n1, _⟩ := hgc.kn.two
      have ln0 := hgc.kn.lt
      obtain ⟨ga, gcap, rfl, rg⟩ := own_row hgc.own
      have HB9 := hide (cntG_B n.ts m N i)
      have HEQ := hide (equation_any n (bitsK m i) sa ta ga N scap i tcap (bitsK m i).length gcap wr (hgc.net HNET.out) rfl (by have := bitsK_len m i; omega) rg (fun _ h1 _ h3 => by
        rw [HLN.out.1] at h3 ⊢
        rcases HSG.out h1 with ⟨_, h⟩ | ⟨_, _, _, h, _⟩
        · rw [h] at h3; cases h3
        · exact h))
      have HER := hide (eqR_bits (m := m) HCK.out HLN.out.2.1 hk7 HLN.out.1)
      have HLE := hide (bitsK_len m i)
      clear hgc rg hlt
      obtain ⟨C, hC⟩ : ∃ C, cntG n.ts m N i = C := ⟨_, rfl⟩
      have HCL := hide (cntG_len n.ts m N i)
      rw [hC] at HGC HB9 HCL HSG
      clear hC
      have HXB9 : Hid (XB 9 C) := hide (HB9.out.mono (by omega))
      clear HB9
      generalize bitsK m i = gl at *
      obtain ⟨M, hM⟩ : ∃ M, M = gl.length := ⟨_, rfl⟩
      rw [← hM] at HLE HEQ HSG HER ⊢
      clear hM
      have hM3 : M ≤ 3 := by have := HLE.out; omega
      by_cases hM0 : M = 0
      · have HR : Hid (eqR n gl = ([], 2)) := hide (by rw [HER.out, if_pos hM0])
        have d0 : ((M : Int) == 0) = true := by simp [hM0]
        clear hM0
        go_wp2_with fail
        refine HEQ.out.mono ?_
        rintro e W5 ⟨v, rfl, -, hv, hb5⟩
        rw [HR.out] at hv ⊢
        obtain rfl := hv (by decide)
        have hB := HGC.out.be.trans (hb5.mono HGC.out.be.size)
        clear hv hb5
        go_wp2_with fail
        refine (works_any _).mono ?_
        rintro e W9 ⟨rfl, hb9⟩
        go_wp2_with fail
        go_ret
        exact ⟨rfl, hB.trans (hb9.mono hB.size)⟩
      · have HSG2 := hide (HSG.out hM0)
        have d0 : ((M : Int) == 0) = false := by simp; omega
        rw [if_neg hM0] at HER
        clear hM0 HSG
        rcases HSG2.out with ⟨hor, hf⟩ | ⟨hm1, hm2, hf, -, hg⟩
        · have HR : Hid (eqR n gl = ([], 4)) := hide (by rw [HER.out, if_neg (by rw [hf]; simp)])
          have HOR := hide hor
          clear hor hf
          go_wp2_with fail
          refine HEQ.out.mono ?_
          rintro e W5 ⟨v, rfl, -, hv, hb5⟩
          rw [HR.out] at hv ⊢
          obtain rfl := hv (by decide)
          have HG5 := hide (HGC.out.kept hb5)
          clear hv hb5
          go_wp2_with fail
          clear n0 n1 ln0 hsz
          go_loopw [15, 16, 92] (fun a b ix wr => ∃ k : Nat, k ≤ N ∧ ix = .int .i64 (k : Int) ∧ a = .int .i64 (sharK C k) ∧ b = .int .i64 (mostK C k) ∧ wr = W5) (fun _ _ ix _ => N - (intOf ix).toNat)
          case atStart => exact ⟨0, Nat.zero_le _, rfl, rfl, rfl, rfl⟩
          case round =>
            obtain ⟨k, hk, rfl, rfl, rfl, rfl⟩ := hrel
            by_cases hlt : k < N
            · obtain ⟨c0, _⟩ := ints_cell HG5.out.kc (q := k) (by rw [HCL.out]; exact hlt)
              have lc := HG5.out.kc.lt
              have bk := HXB9.out k
              have HMS := hide (mostK_snoc C k)
              have HSS := hide (sharK_snoc C k)
              have bm := mostK_B HXB9.out k
              have bs := sharK_B HXB9.out k
              have ik : (k : Int) < N := by omega
              generalize C.getD k 0 = ck at *
              generalize mostK C k = mk at *
              generalize sharK C k = sk at *
              obtain ⟨bk0, bk1⟩ := bk
              obtain ⟨bm0, bm1⟩ := bm
              obtain ⟨bs0, bs1⟩ := bs
              have w1 : IntKind.i64.wrap (ck - 1) = ck - 1 := IntWalk.i64_in _ (by omega)
              have w2 : IntKind.i64.wrap (sk + max 0 (ck - 1)) = sk + max 0 (ck - 1) := IntWalk.i64_in _ (by omega)
              go_wp2_with fail
              exact ⟨⟨k + 1, by omega, by go_num, by rw [HSS.out], by rw [HMS.out], by trivial⟩, by simp [intOf]; omega⟩
            · have hkN : k = N := by omega
              subst hkN
              by_cases h2 : 2 < mostK C k
              · have d1 : decide (2 < mostK C k) = true := decide_eq_true h2
                clear h2
                have hB := HG5.out.be
                go_wp2_with fail
                refine (works_any _).mono ?_
                rintro e W9 ⟨rfl, hb9⟩
                go_wp2_with fail
                go_ret
                exact ⟨rfl, hB.trans (hb9.mono hB.size)⟩
              · have hne : (sharK C k != (M : Int) - 1) = true := by
                  have := HOR.out
                  rw [bne_iff_ne]
                  omega
                have d1 : decide (2 < mostK C k) = false := decide_eq_false h2
                have w1 : IntKind.i64.wrap ((M : Int) - 1) = (M : Int) - 1 := IntWalk.i64_in _ (by omega)
                clear h2
                have hB := HG5.out.be
                go_wp2_with fail
                refine (works_any _).mono ?_
                rintro e W9 ⟨rfl, hb9⟩
                go_wp2_with fail
                go_ret
                exact ⟨rfl, hB.trans (hb9.mono hB.size)⟩
        · have HR : Hid (eqR n gl = ((grpR n.ts gl N).1, 0)) := hide (by rw [HER.out, if_pos hf])
          have HOR := hide (And.intro hm1 hm2)
          have HGO := hide hg
          clear hm1 hm2 hf hg
          generalize (grpR n.ts gl N).1 = R at *
          go_wp2_with fail
          refine HEQ.out.mono ?_
          rintro e W5 ⟨v, rfl, hv, -, hb5⟩
          rw [HR.out] at hv ⊢
          obtain ⟨g, rfl, hgs, hkg⟩ := hv rfl
          have HG5 := hide (HGC.out.kept hb5)
          have HKG := hide hkg
          clear hv hb5 hgs hkg
          go_wp2_with fail
          clear n0 n1 ln0 hsz
          go_loopw [15, 16, 92] (fun a b ix wr => ∃ k : Nat, k ≤ N ∧ ix = .int .i64 (k : Int) ∧ a = .int .i64 (sharK C k) ∧ b = .int .i64 (mostK C k) ∧ wr = W5) (fun _ _ ix _ => N - (intOf ix).toNat)
          case atStart => exact ⟨0, Nat.zero_le _, rfl, rfl, rfl, rfl⟩
          case round =>
            obtain ⟨k, hk, rfl, rfl, rfl, rfl⟩ := hrel
            by_cases hlt : k < N
            · obtain ⟨c0, _⟩ := ints_cell HG5.out.kc (q := k) (by rw [HCL.out]; exact hlt)
              have lc := HG5.out.kc.lt
              have bk := HXB9.out k
              have HMS := hide (mostK_snoc C k)
              have HSS := hide (sharK_snoc C k)
              have bm := mostK_B HXB9.out k
              have bs := sharK_B HXB9.out k
              have ik : (k : Int) < N := by omega
              generalize C.getD k 0 = ck at *
              generalize mostK C k = mk at *
              generalize sharK C k = sk at *
              obtain ⟨bk0, bk1⟩ := bk
              obtain ⟨bm0, bm1⟩ := bm
              obtain ⟨bs0, bs1⟩ := bs
              have w1 : IntKind.i64.wrap (ck - 1) = ck - 1 := IntWalk.i64_in _ (by omega)
              have w2 : IntKind.i64.wrap (sk + max 0 (ck - 1)) = sk + max 0 (ck - 1) := IntWalk.i64_in _ (by omega)
              go_wp2_with fail
              exact ⟨⟨k + 1, by omega, by go_num, by rw [HSS.out], by rw [HMS.out], by trivial⟩, by simp [intOf]; omega⟩
            · have hkN : k = N := by omega
              subst hkN
              have hm2 := HOR.out.2
              have d1 : decide (2 < mostK C k) = false := decide_eq_false (by have := HOR.out.1; omega)
              have w1 : IntKind.i64.wrap ((M : Int) - 1) = (M : Int) - 1 := IntWalk.i64_in _ (by omega)
              rw [hm2]
              clear hm2
              go_wp2_with fail
              clear d1 w1
              go_loopw [19, 20, 135] (fun a b ix wr2 => ∃ q : Nat, q ≤ k ∧ ix = .int .i64 (q : Int) ∧ a = .int .i64 (dotK R (fun i => X.getD i 0) q) ∧ b = .int .i64 (fstK R q) ∧ wr2 = wr) (fun _ _ ix _ => k - (intOf ix).toNat)
              case atStart => exact ⟨0, Nat.zero_le _, rfl, rfl, rfl, rfl⟩
              case round =>
                obtain ⟨q, hq, rfl, rfl, rfl, rfl⟩ := hrel
                by_cases hlt : q < k
                · obtain ⟨c0, _⟩ := ints_cell HG5.out.kc (q := q) (by rw [HCL.out]; exact hlt)
                  obtain ⟨r0, _⟩ := ints_cell HKG.out (q := q) (by rw [HGO.out.len]; exact hlt)
                  obtain ⟨_, _, e, hgb, hxc⟩ := HG5.out.rx.int (by rw [HLN.out.2.2]; omega)
                  cases e
                  have x0 := hxc q (by rw [HLN.out.2.2]; exact hlt)
                  simp only [Nat.zero_add, iat] at x0
                  clear hxc
                  have lc := HG5.out.kc.lt
                  have lgg := HKG.out.lt
                  have HDS : Hid (dotK R (fun i => X.getD i 0) (q + 1) = dotK R (fun i => X.getD i 0) q + R.getD q 0 * X.getD q 0) := hide (dotK_snoc _ _ _)
                  have HFS := hide (fstK_snoc R q)
                  have one := HGO.out.one q hlt
                  have bx := HXB.out q
                  have bd := dotK_B (grp_one HGO.out) (fun i => HXB.out i) q (by omega)
                  have ik : (q : Int) < k := by omega
                  generalize C.getD q 0 = cq at *
                  generalize R.getD q 0 = r at *
                  generalize X.getD q 0 = y at *
                  generalize dotK R (fun i => X.getD i 0) q = d at *
                  generalize fstK R q = f at *
                  obtain ⟨bx0, bx1⟩ := bx
                  obtain ⟨bd0, bd1⟩ := bd
                  have hp : -524280 ≤ r * y ∧ r * y ≤ 524280 := by
                    rcases one with ⟨_, h | h⟩ | ⟨_, h⟩ <;> rw [h] <;> omega
                  obtain ⟨hp0, hp1⟩ := hp
                  have w1 : IntKind.i64.wrap (r * y) = r * y := IntWalk.i64_in _ (by omega)
                  have w2 : IntKind.i64.wrap (d + r * y) = d + r * y := IntWalk.i64_in _ (by omega)
                  rcases one with ⟨hc, hr | hr⟩ | ⟨hc, hr⟩
                  · have e1 : (cq == 1) = true := beq_iff_eq.2 hc
                    have e3 : (cq != 1) = false := by rw [hc]; rfl
                    have e2 : (r != 1) = false := by rw [hr]; rfl
                    clear hc hr
                    by_cases hf : f = 0
                    · have df : (f == 0) = true := beq_iff_eq.2 hf
                      have HF := hide hf
                      clear hf
                      go_wp2_with fail
                      exact ⟨⟨q + 1, by omega, by go_num, by rw [HDS.out], by rw [HFS.out, if_pos HF.out], by trivial⟩, by simp [intOf]; omega⟩
                    · have df : (f == 0) = false := beq_eq_false_iff_ne.2 hf
                      have HF := hide hf
                      clear hf
                      go_wp2_with fail
                      exact ⟨⟨q + 1, by omega, by go_num, by rw [HDS.out], by rw [HFS.out, if_neg HF.out], by trivial⟩, by simp [intOf]; omega⟩
                  · have e1 : (cq == 1) = true := beq_iff_eq.2 hc
                    have e3 : (cq != 1) = false := by rw [hc]; rfl
                    have e2 : (r != 1) = true := by rw [hr]; rfl
                    have e4 : (r != -1) = false := by rw [hr]; rfl
                    clear hc hr
                    by_cases hf : f = 0
                    · have df : (f == 0) = true := beq_iff_eq.2 hf
                      have HF := hide hf
                      clear hf
                      go_wp2_with fail
                      exact ⟨⟨q + 1, by omega, by go_num, by rw [HDS.out], by rw [HFS.out, if_pos HF.out], by trivial⟩, by simp [intOf]; omega⟩
                    · have df : (f == 0) = false := beq_eq_false_iff_ne.2 hf
                      have HF := hide hf
                      clear hf
                      go_wp2_with fail
                      exact ⟨⟨q + 1, by omega, by go_num, by rw [HDS.out], by rw [HFS.out, if_neg HF.out], by trivial⟩, by simp [intOf]; omega⟩
                  · have e1 : (cq == 1) = false := beq_eq_false_iff_ne.2 hc
                    have e3 : (cq != 1) = true := by rw [bne_iff_ne]; exact hc
                    have e2 : (r != 0) = false := by rw [hr]; rfl
                    clear hc hr
                    by_cases hf : f = 0
                    · have df : (f == 0) = true := beq_iff_eq.2 hf
                      have HF := hide hf
                      clear hf
                      go_wp2_with fail
                      exact ⟨⟨q + 1, by omega, by go_num, by rw [HDS.out], by rw [HFS.out, if_pos HF.out], by trivial⟩, by simp [intOf]; omega⟩
                    · have df : (f == 0) = false := beq_eq_false_iff_ne.2 hf
                      have HF := hide hf
                      clear hf
                      go_wp2_with fail
                      exact ⟨⟨q + 1, by omega, by go_num, by rw [HDS.out], by rw [HFS.out, if_neg HF.out], by trivial⟩, by simp [intOf]; omega⟩
                · have hqk : q = k := by omega
                  have h1 : dotK R (fun i => X.getD i 0) q = 0 := by
                    rw [hqk]
                    exact grp_dot (X := xF X) HGO.out fun t ht => ⟨fun o ho => by have := HIN.out t ht o ho; rw [HLN.out.1] at this; exact this, HTRU.out.tr t ht⟩
                  have h2 : fstK R q = 1 := by rw [hqk]; exact HGO.out.fst
                  rw [h1, h2]
                  clear h1 h2
                  subst hqk
                  have hB := HG5.out.be
                  go_wp2_with fail
                  refine (works_any _).mono ?_
                  rintro e W9 ⟨rfl, hb9⟩
                  go_wp2_with fail
                  go_ret
                  exact ⟨rfl, hB.trans (hb9.mono hB.size)⟩

end Go.Proofs.Ytlbhnicengolfaa
