/-
  Package agoniclaw03: made.
-/
import Derived.Test.YtlbhnicengolfaaSky
import Derived.StillTailTactics
namespace Go.Proofs.Ytlbhnicengolfaa
open Go.RowKit
set_option linter.unusedVariables false
set_option linter.unusedSimpArgs false

theorem info_tri0 : (Try.prog.info? 75).map (fun i => (i.zero, i.size, i.bytes)) = some (some (.agg #[.int .i64 0, .int .i64 0, .int .i64 0]), 3, 24) := by kernel_rfl
theorem under_tris : Try.prog.underlying 23 = some (.slice 75) := by kernel_rfl
theorem info_tri : ∃ i : TypeInfo, Try.prog.info? 75 = some i ∧ i.zero = some (.agg #[.int .i64 0, .int .i64 0, .int .i64 0]) ∧ i.size = 3 ∧ i.bytes = 24 := info_parts info_tri0

theorem ownBlk {W : World} {B k n s g : Nat} {e t : TypeId} {v : Value} {xs : List Value} {cs : Array Value} (h : W.ownsRow B e s v n xs) (hv : v.ownBlock = some g) (hk : Blk W k cs t) (hne : e ≠ t) : g ≠ k := by
  rintro rfl
  rcases h.2 with ⟨rfl, _⟩ | ⟨g', cp, cur, rfl, _, hc, _⟩
  · cases hv
  · cases hv
    rw [show W.heap[_]? = _ from hk] at hc
    injection hc with hc
    injection hc with _ h2 _
    exact hne h2.symm
theorem ownOwn {W : World} {B B' n n' s s' g g' : Nat} {e t : TypeId} {v v' : Value} {xs xs' : List Value} (h : W.ownsRow B e s v n xs) (h' : W.ownsRow B' t s' v' n' xs') (hv : v.ownBlock = some g) (hv' : v'.ownBlock = some g') (hne : e ≠ t) : g ≠ g' := by
  rcases h'.2 with ⟨rfl, _⟩ | ⟨g2, cp, cur, rfl, _, hc, _⟩
  · cases hv'
  · cases hv'
    exact ownBlk h hv (show Blk W _ cur t from hc) hne

theorem minI (ats : Array TypeId) (ty : TypeId) (k k' : IntKind) (x y : Int) : Builtin.min_ ats ty #[.int k x, .int k' y] = pure (.int k (min x y)) := by
  simp only [Builtin.min_, List.foldlM_cons, List.foldlM_nil, Builtin.min2]
  by_cases h : y < x
  · rw [if_pos h, Int.min_eq_right (by omega)]; rfl
  · rw [if_neg h, Int.min_eq_left (by omega)]; rfl
theorem maxI (ats : Array TypeId) (ty : TypeId) (k k' : IntKind) (x y : Int) : Builtin.max_ ats ty #[.int k x, .int k' y] = pure (.int k (max x y)) := by
  simp only [Builtin.max_, List.foldlM_cons, List.foldlM_nil, Builtin.max2]
  by_cases h : x < y
  · rw [if_pos (by omega), Int.max_eq_right (by omega)]; rfl
  · rw [if_neg (by omega), Int.max_eq_left (by omega)]; rfl
theorem own_ne {W : World} {B B' n n' s s' : Nat} {e t : TypeId} {v v' : Value} {xs xs' : List Value} (h : W.ownsRow B e s v n xs) (h' : W.ownsRow B' t s' v' n' xs') (hne : e ≠ t) : v.ownBlock = none ∨ v.ownBlock ≠ v'.ownBlock := by
  cases hv : v.ownBlock with
  | none => exact .inl rfl
  | some j => exact .inr fun e => ownOwn h h' hv e.symm hne rfl
/-- What lies in memory while a net is made: the sky at b, the net at b + 3, its two rows. -/
structure MkIn (w : World) (b : Nat) (la : Option Addr) (ln lc : Nat) (s : TSky) (c0 c1 : Value) (N : Nat) (sp : List Sp) (vs : Value) (T : Nat) (ts : List Tri) (vt : Value) (wr : World) : Prop where
  k0 : Blk wr b (skyC la ln lc s) 63
  k1 : Blk wr (b + 1) #[.slice none 0 0, .slice none 0 0] 25
  k3 : Blk wr (b + 1 + 1 + 1) #[c0, c1] 25
  os : wr.ownsRow b 53 2 vs N (spans sp)
  ot : wr.ownsRow b 75 3 vt T (tris ts)
  be : Below b w wr
section
variable {w : World} {b : Nat} {la : Option Addr} {ln lc : Nat} {s : TSky} {c0 c1 : Value} {N T : Nat} {sp : List Sp} {ts : List Tri} {vs vt : Value} {wr : World}
theorem MkIn.alloc (h : MkIn w b la ln lc s c0 c1 N sp vs T ts vt wr) (o : Obj) : MkIn w b la ln lc s c0 c1 N sp vs T ts vt (wr.alloc o) :=
  ⟨h.k0.alloc o, h.k1.alloc o, h.k3.alloc o, h.os.alloc o, h.ot.alloc o, h.be.alloc (by have := h.k0.lt; omega) o⟩
theorem MkIn.drewN (h : MkIn w b la ln lc s c0 c1 N sp vs T ts vt wr) (n : Nat) : MkIn w b la ln lc s c0 c1 N sp vs T ts vt (wr.drewN n) :=
  ⟨h.k0, h.k1, h.k3, h.os, h.ot, below_drewN h.be n⟩
theorem blk_grown {W W' : World} {k : Nat} {cs : Array Value} {t : TypeId} {r : Option Nat} (h : Blk W k cs t) (g : W.grownBy W' r) (hr : ∀ j, r = some j → j ≠ k) : Blk W' k cs t :=
  (g.block k h.lt (fun e => hr k e.symm rfl)).trans h
theorem MkIn.grT (h : MkIn w b la ln lc s c0 c1 N sp vs T ts vt wr) {W' : World} (g : wr.grownBy W' vt.ownBlock) {T' : Nat} {ts' : List Tri} {vt' : Value} (ow : W'.ownsRow b 75 3 vt' T' (tris ts')) : MkIn w b la ln lc s c0 c1 N sp vs T' ts' vt' W' :=
  ⟨blk_grown h.k0 g fun j e => ownBlk h.ot e h.k0 (by decide), blk_grown h.k1 g fun j e => ownBlk h.ot e h.k1 (by decide), blk_grown h.k3 g fun j e => ownBlk h.ot e h.k3 (by decide),
    h.os.kept g (own_ne h.os h.ot (by decide)), ow, below_own h.be h.ot (Nat.le_refl _) (by have := h.k0.lt; omega) g⟩
theorem MkIn.grS (h : MkIn w b la ln lc s c0 c1 N sp vs T ts vt wr) {W' : World} (g : wr.grownBy W' vs.ownBlock) {N' : Nat} {sp' : List Sp} {vs' : Value} (ow : W'.ownsRow b 53 2 vs' N' (spans sp')) : MkIn w b la ln lc s c0 c1 N' sp' vs' T ts vt W' :=
  ⟨blk_grown h.k0 g fun j e => ownBlk h.os e h.k0 (by decide), blk_grown h.k1 g fun j e => ownBlk h.os e h.k1 (by decide), blk_grown h.k3 g fun j e => ownBlk h.os e h.k3 (by decide),
    ow, h.ot.kept g (own_ne h.ot h.os (by decide)), below_own h.be h.os (Nat.le_refl _) (by have := h.k0.lt; omega) g⟩
theorem own_set {W : World} {B n s k i : Nat} {e t : TypeId} {v u : Value} {xs : List Value} {cs : Array Value} (h : W.ownsRow B e s v n xs) (hk : Blk W k cs t) (hne : e ≠ t) : (W.setCell ⟨k, i, none⟩ u).ownsRow B e s v n xs :=
  h.kept (row := some k) (own2_grown _ _ _ _) (by
    cases hv : v.ownBlock with
    | none => exact .inl rfl
    | some j => exact .inr fun e => ownBlk h hv hk hne (by injection e))
theorem MkIn.set1 (h : MkIn w b la ln lc s c0 c1 N sp vs T ts vt wr) (u : Value) : MkIn w b la ln lc s c0 u N sp vs T ts vt (wr.setCell ⟨b + 1 + 1 + 1, 1, none⟩ u) :=
  ⟨h.k0.other (p := ⟨b + 1 + 1 + 1, 1, none⟩) (show b ≠ b + 1 + 1 + 1 by omega) u, h.k1.other (p := ⟨b + 1 + 1 + 1, 1, none⟩) (show b + 1 ≠ b + 1 + 1 + 1 by omega) u, h.k3.set 1 u, own_set h.os h.k3 (by decide), own_set h.ot h.k3 (by decide), h.be.setCell (p := ⟨b + 1 + 1 + 1, 1, none⟩) (show b ≤ b + 1 + 1 + 1 by omega) u⟩
theorem MkIn.set0 (h : MkIn w b la ln lc s c0 c1 N sp vs T ts vt wr) (u : Value) : MkIn w b la ln lc s u c1 N sp vs T ts vt (wr.setCell ⟨b + 1 + 1 + 1, 0, none⟩ u) :=
  ⟨h.k0.other (p := ⟨b + 1 + 1 + 1, 0, none⟩) (show b ≠ b + 1 + 1 + 1 by omega) u, h.k1.other (p := ⟨b + 1 + 1 + 1, 0, none⟩) (show b + 1 ≠ b + 1 + 1 + 1 by omega) u, h.k3.set 0 u, own_set h.os h.k3 (by decide), own_set h.ot h.k3 (by decide), h.be.setCell (p := ⟨b + 1 + 1 + 1, 0, none⟩) (show b ≤ b + 1 + 1 + 1 by omega) u⟩
theorem MkIn.setS {sg scap : Nat} (h : MkIn w b la ln lc s c0 c1 N sp (.slice (some ⟨sg, 0, none⟩) N scap) T ts vt wr) (q : Nat) (x y : Int) :
    MkIn w b la ln lc s c0 c1 N (sp.set q (x, y)) (.slice (some ⟨sg, 0, none⟩) N scap) T ts vt ((wr.setCell ⟨sg, q * 2, none⟩ (.int .i64 x)).setCell ⟨sg, q * 2 + 1, none⟩ (.int .i64 y)) :=
  have g := grownBy_trans (own2_grown wr sg (q * 2) (.int .i64 x)) (own2_grown (wr.setCell ⟨sg, q * 2, none⟩ (.int .i64 x)) sg (q * 2 + 1) (.int .i64 y))
  h.grS (vs' := .slice (some ⟨sg, 0, none⟩) N scap) g (own2_set h.os q x y)
theorem MkIn.lo (h : MkIn w b la ln lc s c0 c1 N sp vs T ts vt wr) {q : Nat} (hq : q < 7) : wr.cell? ⟨b, 1 + q * 2, none⟩ = some (.int .u8 (s.sb (2 * q))) ∧ wr.cell? ⟨b, 1 + q * 2 + 1, none⟩ = some (.int .u8 (s.sb (2 * q + 1))) := by
  have e0 := h.k0.cell (1 + 2 * q)
  have e1 := h.k0.cell (1 + (2 * q + 1))
  rw [skyC_get (by omega)] at e0 e1
  exact ⟨by rw [show q * 2 = 2 * q by omega]; exact e0, by rw [show 1 + q * 2 + 1 = 1 + (2 * q + 1) by omega]; exact e1⟩
theorem tris_append : ∀ (a c : List Tri), tris (a ++ c) = tris a ++ tris c
  | [], c => rfl
  | t :: a, c => by simp [tris, tris_append a c]
end

attribute [local go_sem high] minI maxI in
set_option maxRecDepth 100000 in
set_option maxHeartbeats 4000000 in
theorem made_any (s : TSky) (la : Option Addr) (ln lc : Nat) (w : World) (hs : SkyOk s) (hln : ln = s.lk.length) (hl : ln ≤ 9223372036854775807) (hrow : Row w w.heap.size la (u8p s.lk)) :
    Calls Try.prog 38 #[.agg (skyC la ln lc s)] w fun e w' =>
      ∃ sg scap tv, e = .returned (.agg #[.slice (some ⟨sg, 0, none⟩) (1 + 2 * skyK s) scap, tv]) ∧ w'.ownsRow w.heap.size 53 2 (.slice (some ⟨sg, 0, none⟩) (1 + 2 * skyK s) scap) (1 + 2 * skyK s) (spans (skyNet s).sp) ∧
        w'.ownsRow w.heap.size 75 3 tv (skyK s) (tris (skyNet s).ts) ∧ Below w.heap.size w w' := by
  obtain ⟨it, hit, hitz0, hitz1, hitz2⟩ := info_tri
  have HIT := hide hit
  obtain ⟨i0, hi, hz0, hz1, hz2⟩ := info_asp
  have HI := hide hi
  clear hi hit
  have HLN := hide hln
  have HS := hide hs
  have HROW := hide hrow
  clear hln hs hrow
  have hk0 := Blk.new w (skyC la ln lc s) 63
  obtain ⟨b, hb⟩ : ∃ b, w.heap.size = b := ⟨_, rfl⟩
  have HB := hide hb
  go_enter Try.func38, Try.ntmps38
  go_upto_region 2 with (fail)
  generalize hW : World.alloc (World.alloc (World.alloc (World.alloc w _) _) _) _ = V
  have hin : MkIn w b la ln lc s (.slice (some ⟨b + 1 + 1, 0, none⟩) 1 1) (.slice none 0 0) 1 [(0, 0)] (.slice (some ⟨b + 1 + 1, 0, none⟩) 1 1) 0 [] (.slice none 0 0) V := by
    rw [← hW]
    subst hb
    have k2 : Blk (((w.alloc (.cells (skyC la ln lc s) 63)).alloc (.cells #[.slice none 0 0, .slice none 0 0] 25)).alloc (.cells #[.int .i64 0, .int .i64 0] 53)) (w.heap.size + 1 + 1) #[.int .i64 0, .int .i64 0] 53 := Blk.newAt (by simp) _ _
    exact ⟨((hk0.alloc _).alloc _).alloc _, ((Blk.newAt (by simp) _ _).alloc _).alloc _, Blk.newAt (by simp) _ _, ⟨rfl, .inr ⟨_, 1, _, rfl, by omega, k2.alloc _, Nat.le_refl _, by decide, rfl, rfl⟩⟩, World.ownsRow_nil _ _ _ _, ((((Below.refl _ _).alloc (Nat.le_refl _) _).alloc (by simp) _).alloc (by simp; omega) _).alloc (by simp; omega) _⟩
  clear hW hk0 hb
  have k0 : V.cell? ⟨b, 0, none⟩ = some (.slice la ln lc) := hin.k0.cell 0
  have hbl := hin.k0.lt
  go_wp2_with fail
  clear k0
  go_loopw [17] (fun i wr => ∃ k : Nat, k ≤ 3 ∧ k ≤ ln ∧ i = .int .i64 (k : Int) ∧ ∃ sg scap tv, MkIn w b la ln lc s (.slice (some ⟨sg, 0, none⟩) (1 + 2 * k) scap) tv (1 + 2 * k) (List.replicate (1 + 2 * k) (0, 0)) (.slice (some ⟨sg, 0, none⟩) (1 + 2 * k) scap) k (skyTs s.lk k) tv wr) (fun i _ => ln - (intOf i).toNat)
  case atStart => exact ⟨0, by omega, by omega, rfl, _, _, _, hin⟩
  case round =>
    clear hin hbl
    obtain ⟨k, hk3, hk, rfl, sg, scap, tv, hin⟩ := hrel
    by_cases hlt : k < ln
    · by_cases hk3' : k < 3
      · obtain ⟨lb, off, hla, hlb, hcell⟩ := (HROW.out.below (HB.out ▸ hin.be) (Nat.le_refl _)).u8 (by have := HLN.out; omega)
        obtain ⟨c0, c1⟩ := hcell k (by have := HLN.out; omega)
        obtain ⟨l00, l01, l10, l11⟩ := HS.out.lk k
        have HT : Hid (skyTs s.lk (k + 1) = skyTs s.lk k ++ [skyT k (s.lk.getD k (0, 0))]) := hide rfl
        generalize s.lk.getD k (0, 0) = l at *
        obtain ⟨x, y⟩ := l
        dsimp only at c0 c1 l00 l01 l10 l11
        obtain ⟨N, hN⟩ : ∃ N, N = 1 + 2 * k := ⟨_, rfl⟩
        have HN := hide hN
        rw [← hN] at hin
        have hN1 : 1 ≤ N := by omega
        have hN7 : N ≤ 7 := by omega
        have hbl := hin.k0.lt
        have hbr := hin.k3.lt
        clear hcell hN
        subst hla
        have HIN := hide hin
        obtain ⟨n0, n1, _⟩ := hin.k3.two
        clear hin
        go_wp2_with fail
        have kl := Blk.new wr #[.int .u8 x, .int .u8 y] 60
        have HIA := hide (HIN.out.alloc (.cells #[.int .u8 x, .int .u8 y] 60))
        have hsz : (wr.alloc (.cells #[.int .u8 x, .int .u8 y] 60)).heap.size = wr.heap.size + 1 := by simp
        generalize hW : wr.alloc (.cells #[.int .u8 x, .int .u8 y] 60) = V1 at *
        generalize wr.heap.size = lbk at *
        clear hW n0 n1 c0 c1
        obtain ⟨n0, n1, _⟩ := HIA.out.k3.two
        obtain ⟨e0, e1, _⟩ := kl.two
        have hx0 : 0 ≤ x % (N : Int) := Int.emod_nonneg _ (by omega)
        have hx1 : x % (N : Int) < N := Int.emod_lt_of_pos _ (by omega)
        have hx0 : 0 ≤ x % (N : Int) := Int.emod_nonneg _ (by omega)
        have hx1 : x % (N : Int) < N := Int.emod_lt_of_pos _ (by omega)
        have hx0 : 0 ≤ x % (N : Int) := Int.emod_nonneg _ (by omega)
        have hx1 : x % (N : Int) < N := Int.emod_lt_of_pos _ (by omega)
        have hx0 : 0 ≤ x % (N : Int) := Int.emod_nonneg _ (by omega)
        have hx1 : x % (N : Int) < N := Int.emod_lt_of_pos _ (by omega)
        have hx0 : 0 ≤ x % (N : Int) := Int.emod_nonneg _ (by omega)
        have hx1 : x % (N : Int) < N := Int.emod_lt_of_pos _ (by omega)
        have hx0 : 0 ≤ x % (N : Int) := Int.emod_nonneg _ (by omega)
        have hx1 : x % (N : Int) < N := Int.emod_lt_of_pos _ (by omega)
        have hx0 : 0 ≤ x % (N : Int) := Int.emod_nonneg _ (by omega)
        have hx1 : x % (N : Int) < N := Int.emod_lt_of_pos _ (by omega)
        have hx0 : 0 ≤ x % (N : Int) := Int.emod_nonneg _ (by omega)
        have hx1 : x % (N : Int) < N := Int.emod_lt_of_pos _ (by omega)
        have hx0 : 0 ≤ x % (N : Int) := Int.emod_nonneg _ (by omega)
        have hx1 : x % (N : Int) < N := Int.emod_lt_of_pos _ (by omega)
        have hx0 : 0 ≤ x % (N : Int) := Int.emod_nonneg _ (by omega)
        have hx1 : x % (N : Int) < N := Int.emod_lt_of_pos _ (by omega)
        have hx0 : 0 ≤ x % (N : Int) := Int.emod_nonneg _ (by omega)
        have hx1 : x % (N : Int) < N := Int.emod_lt_of_pos _ (by omega)
        go_quiet (fail)
        go_upto_region 8 with (fail)
        obtain ⟨old, hold⟩ : ∃ old, x % (N : Int) = old := ⟨_, rfl⟩
        have HOLD := hide hold
        rw [hold] at hx0 hx1
        simp only [hold]
        clear hold
        have hsz2 : (V1.drewN nq).heap.size = lbk + 1 := hsz
        by_cases hy : y % 2 = 1
        · have dy : (y % 2 == 1) = true := beq_iff_eq.2 hy
          have HTT : Hid (skyT k (x, y) = ((N : Int), (N : Int) + 1, old)) := hide (by unfold skyT; rw [if_pos hy, ← HOLD.out, HN.out]; simp)
          clear hy
          go_upto_region 10 with (fail)
          generalize hV : World.alloc (V1.drewN nq) _ = V2
          have HIB : Hid (MkIn w b (some ⟨lb, off, none⟩) ln lc s (.slice (some ⟨sg, 0, none⟩) N scap) tv N (List.replicate N (0, 0)) (.slice (some ⟨sg, 0, none⟩) N scap) k (skyTs s.lk k) tv V2) := hide (by rw [← hV]; exact (HIA.out.drewN nq).alloc _)
          have kt : Blk V2 (lbk + 1) #[.int .i64 (N : Int), .int .i64 ((N : Int) + 1), .int .i64 old] 75 := by rw [← hV]; exact Blk.newAt hsz2.symm _ _
          have hsz3 : V2.heap.size = lbk + 2 := by rw [← hV]; simp [hsz]
          clear hV n0 n1 e0 e1 kl dy hsz hsz2
          obtain ⟨n0, n1, _⟩ := HIB.out.k3.two
          obtain ⟨c0, c1, c2, _⟩ := kt.three
          have lt := kt.lt
          have lb3 := HIB.out.k3.lt
          go_upto_region 11 with (
            at_builtin
            refine wpList_append_lies _ rfl (.tmp 49) (.tmp 51) 23 rfl b 75 it (.agg #[.int .i64 0, .int .i64 0, .int .i64 0]) 3 24 under_tris HIT.out hitz0 hitz1 hitz2 rfl (by decide) _ k (tris (skyTs s.lk k)) rfl (HIB.out.ot.alloc _) ⟨lbk + 2, 0, none⟩ 1 1 [.int .i64 (N : Int), .int .i64 ((N : Int) + 1), .int .i64 old] rfl rfl
              (World.news_of_block (cs := #[.int .i64 (N : Int), .int .i64 ((N : Int) + 1), .int .i64 old]) (t := 75) (fr := (0, 0)) (Blk.newAt (by simp [hsz3]) _ _)) (by intro u hu; simp at hu; rcases hu with rfl | rfl | rfl <;> rfl) (by decide) (by unfold maxLen; omega) (by omega) (by simp; omega) _ rfl ?_
            intro g2 cap2 W4 ow4 gr4 at4 lt4
            have HIC := hide ((HIB.out.alloc (.cells #[.int .i64 (N : Int), .int .i64 ((N : Int) + 1), .int .i64 old] 75)).grT (ts' := skyTs s.lk (k + 1)) gr4 (by rw [HT.out, HTT.out, tris_append]; exact ow4))
            obtain ⟨m0, m1, mf0, mf1⟩ := HIC.out.k3.two
            have ml := HIC.out.k3.lt
            clear n0 n1 lb3 c0 c1 c2 lt)
          generalize hV3 : W4.setCell ⟨b + 1 + 1 + 1, 1, none⟩ (.slice (some ⟨g2, 0, none⟩) (k + 1) cap2) = V3
          have HID : Hid (MkIn w b (some ⟨lb, off, none⟩) ln lc s (.slice (some ⟨sg, 0, none⟩) N scap) (.slice (some ⟨g2, 0, none⟩) (k + 1) cap2) N (List.replicate N (0, 0)) (.slice (some ⟨sg, 0, none⟩) N scap) (k + 1) (skyTs s.lk (k + 1)) (.slice (some ⟨g2, 0, none⟩) (k + 1) cap2) V3) := hide (by rw [← hV3]; exact HIC.out.set1 _)
          clear hV3 m0 m1 mf0 mf1 ml gr4 at4 lt4 ow4
          obtain ⟨n0, n1, nf0, nf1⟩ := HID.out.k3.two
          have nl := HID.out.k3.lt
          go_wp2_with (
            at_builtin
            refine wpList_append_lies _ rfl (.tmp 55) (.tmp 58) 22 rfl b 53 i0 (.agg #[.int .i64 0, .int .i64 0]) 2 16 under_asps HI.out hz0 hz1 hz2 rfl (by decide) _ N (spans (List.replicate N (0, 0))) rfl (HID.out.os.alloc _) ⟨V3.heap.size, 0, none⟩ 2 2 [.int .i64 0, .int .i64 0, .int .i64 0, .int .i64 0] rfl rfl
              (World.news_of_block (cs := #[.int .i64 0, .int .i64 0, .int .i64 0, .int .i64 0]) (t := 53) (fr := (0, 0)) (Blk.newAt rfl _ _)) (by intro u hu; simp at hu; rcases hu with rfl | rfl | rfl | rfl <;> rfl) (by decide) (by unfold maxLen; omega) (by omega) (by simp; omega) _ rfl ?_
            intro g3 cap3 W6 ow6 gr6 at6 lt6
            have HIE := hide ((HID.out.alloc (.cells #[.int .i64 0, .int .i64 0, .int .i64 0, .int .i64 0] 53)).grS (sp' := List.replicate (N + 2) (0, 0)) gr6 (by rw [show List.replicate (N + 2) ((0, 0) : Sp) = List.replicate N (0, 0) ++ [(0, 0), (0, 0)] from (List.replicate_append_replicate (n := N) (m := 2)).symm, spans_append]; exact ow6))
            obtain ⟨m0, m1, mf0, mf1⟩ := HIE.out.k3.two
            have ml := HIE.out.k3.lt
            clear n0 n1 nf0 nf1 nl)
          have HIF := hide (HIE.out.set0 (.slice (some ⟨g3, 0, none⟩) (N + 2) cap3))
          clear m0 m1 mf0 mf1 ml gr6 at6 lt6 ow6
          go_roundw
          case rel => exact ⟨k + 1, by omega, by omega, by go_num, g3, cap3, _, by rw [show 1 + 2 * (k + 1) = N + 2 by rw [HN.out]; omega]; exact HIF.out⟩
          case measure => simp [intOf]; omega
        · have dy : (y % 2 == 1) = false := beq_eq_false_iff_ne.2 hy
          have HTT : Hid (skyT k (x, y) = (old, (N : Int), (N : Int) + 1)) := hide (by unfold skyT; rw [if_neg hy, ← HOLD.out, HN.out]; simp)
          clear hy
          go_upto_region 10 with (fail)
          generalize hV : World.alloc (V1.drewN nq) _ = V2
          have HIB : Hid (MkIn w b (some ⟨lb, off, none⟩) ln lc s (.slice (some ⟨sg, 0, none⟩) N scap) tv N (List.replicate N (0, 0)) (.slice (some ⟨sg, 0, none⟩) N scap) k (skyTs s.lk k) tv V2) := hide (by rw [← hV]; exact (HIA.out.drewN nq).alloc _)
          have kt : Blk V2 (lbk + 1) #[.int .i64 old, .int .i64 (N : Int), .int .i64 ((N : Int) + 1)] 75 := by rw [← hV]; exact Blk.newAt hsz2.symm _ _
          have hsz3 : V2.heap.size = lbk + 2 := by rw [← hV]; simp [hsz]
          clear hV n0 n1 e0 e1 kl dy hsz hsz2
          obtain ⟨n0, n1, _⟩ := HIB.out.k3.two
          obtain ⟨c0, c1, c2, _⟩ := kt.three
          have lt := kt.lt
          have lb3 := HIB.out.k3.lt
          go_upto_region 11 with (
            at_builtin
            refine wpList_append_lies _ rfl (.tmp 49) (.tmp 51) 23 rfl b 75 it (.agg #[.int .i64 0, .int .i64 0, .int .i64 0]) 3 24 under_tris HIT.out hitz0 hitz1 hitz2 rfl (by decide) _ k (tris (skyTs s.lk k)) rfl (HIB.out.ot.alloc _) ⟨lbk + 2, 0, none⟩ 1 1 [.int .i64 old, .int .i64 (N : Int), .int .i64 ((N : Int) + 1)] rfl rfl
              (World.news_of_block (cs := #[.int .i64 old, .int .i64 (N : Int), .int .i64 ((N : Int) + 1)]) (t := 75) (fr := (0, 0)) (Blk.newAt (by simp [hsz3]) _ _)) (by intro u hu; simp at hu; rcases hu with rfl | rfl | rfl <;> rfl) (by decide) (by unfold maxLen; omega) (by omega) (by simp; omega) _ rfl ?_
            intro g2 cap2 W4 ow4 gr4 at4 lt4
            have HIC := hide ((HIB.out.alloc (.cells #[.int .i64 old, .int .i64 (N : Int), .int .i64 ((N : Int) + 1)] 75)).grT (ts' := skyTs s.lk (k + 1)) gr4 (by rw [HT.out, HTT.out, tris_append]; exact ow4))
            obtain ⟨m0, m1, mf0, mf1⟩ := HIC.out.k3.two
            have ml := HIC.out.k3.lt
            clear n0 n1 lb3 c0 c1 c2 lt)
          generalize hV3 : W4.setCell ⟨b + 1 + 1 + 1, 1, none⟩ (.slice (some ⟨g2, 0, none⟩) (k + 1) cap2) = V3
          have HID : Hid (MkIn w b (some ⟨lb, off, none⟩) ln lc s (.slice (some ⟨sg, 0, none⟩) N scap) (.slice (some ⟨g2, 0, none⟩) (k + 1) cap2) N (List.replicate N (0, 0)) (.slice (some ⟨sg, 0, none⟩) N scap) (k + 1) (skyTs s.lk (k + 1)) (.slice (some ⟨g2, 0, none⟩) (k + 1) cap2) V3) := hide (by rw [← hV3]; exact HIC.out.set1 _)
          clear hV3 m0 m1 mf0 mf1 ml gr4 at4 lt4 ow4
          obtain ⟨n0, n1, nf0, nf1⟩ := HID.out.k3.two
          have nl := HID.out.k3.lt
          go_wp2_with (
            at_builtin
            refine wpList_append_lies _ rfl (.tmp 55) (.tmp 58) 22 rfl b 53 i0 (.agg #[.int .i64 0, .int .i64 0]) 2 16 under_asps HI.out hz0 hz1 hz2 rfl (by decide) _ N (spans (List.replicate N (0, 0))) rfl (HID.out.os.alloc _) ⟨V3.heap.size, 0, none⟩ 2 2 [.int .i64 0, .int .i64 0, .int .i64 0, .int .i64 0] rfl rfl
              (World.news_of_block (cs := #[.int .i64 0, .int .i64 0, .int .i64 0, .int .i64 0]) (t := 53) (fr := (0, 0)) (Blk.newAt rfl _ _)) (by intro u hu; simp at hu; rcases hu with rfl | rfl | rfl | rfl <;> rfl) (by decide) (by unfold maxLen; omega) (by omega) (by simp; omega) _ rfl ?_
            intro g3 cap3 W6 ow6 gr6 at6 lt6
            have HIE := hide ((HID.out.alloc (.cells #[.int .i64 0, .int .i64 0, .int .i64 0, .int .i64 0] 53)).grS (sp' := List.replicate (N + 2) (0, 0)) gr6 (by rw [show List.replicate (N + 2) ((0, 0) : Sp) = List.replicate N (0, 0) ++ [(0, 0), (0, 0)] from (List.replicate_append_replicate (n := N) (m := 2)).symm, spans_append]; exact ow6))
            obtain ⟨m0, m1, mf0, mf1⟩ := HIE.out.k3.two
            have ml := HIE.out.k3.lt
            clear n0 n1 nf0 nf1 nl)
          have HIF := hide (HIE.out.set0 (.slice (some ⟨g3, 0, none⟩) (N + 2) cap3))
          clear m0 m1 mf0 mf1 ml gr6 at6 lt6 ow6
          go_roundw
          case rel => exact ⟨k + 1, by omega, by omega, by go_num, g3, cap3, _, by rw [show 1 + 2 * (k + 1) = N + 2 by rw [HN.out]; omega]; exact HIF.out⟩
          case measure => simp [intOf]; omega
      · have HK : Hid (k = skyK s) := hide (by unfold skyK; have := HLN.out; omega)
        have hk3e : decide ((3 : Int) ≤ (k : Int)) = true := decide_eq_true (by omega)
        obtain ⟨lb, off, hla, hlb, hcell⟩ := (HROW.out.below (HB.out ▸ hin.be) (Nat.le_refl _)).u8 (by have := HLN.out; omega)
        obtain ⟨c0, c1⟩ := hcell k (by have := HLN.out; omega)
        clear hcell
        subst hla
        generalize s.lk.getD k (0, 0) = l at *
        obtain ⟨l0, l1⟩ := l
        dsimp only at c0 c1
        obtain ⟨N, hN⟩ : ∃ N, N = 1 + 2 * k := ⟨_, rfl⟩
        have HN := hide hN
        rw [← hN] at hin
        have hN1 : 1 ≤ N := by omega
        have hN7 : N ≤ 7 := by omega
        clear hN
        have HIN := hide hin
        obtain ⟨n0, n1, _⟩ := hin.k3.two
        have hbl := hin.k0.lt
        have hbr := hin.k3.lt
        clear hin
        go_wp2_with fail
        clear n0 n1
        have HIA := hide (HIN.out.alloc (.cells #[.int .u8 l0, .int .u8 l1] 60))
        obtain ⟨n0, n1, _⟩ := HIA.out.k3.two
        go_wp2_with fail
        clear n0 n1 c0 c1
        have HIS : Hid (SkyOk s) := HS
        go_loopw [65] (fun i wq => ∃ q : Nat, q ≤ N ∧ i = .int .i64 (q : Int) ∧ MkIn w b (some ⟨lb, off, none⟩) ln lc s (.slice (some ⟨sg, 0, none⟩) N scap) tv N (skyL s q N) (.slice (some ⟨sg, 0, none⟩) N scap) k (skyTs s.lk k) tv wq) (fun i _ => N - (intOf i).toNat)
        case atStart => exact ⟨0, Nat.zero_le _, rfl, by rw [show skyL s 0 N = List.replicate N (0, 0) by simp [skyL], HN.out]; rw [HN.out] at HIA; exact HIA.out⟩
        case round =>
          clear HIN HIA hbl hbr
          obtain ⟨q, hq, rfl, hin⟩ := hrel
          by_cases hlt : q < N
          · obtain ⟨x0, x1⟩ := hin.lo (q := q) (by omega)
            obtain ⟨n0, n1, _⟩ := hin.k3.two
            obtain ⟨c0, c1, f0, f1⟩ := own2_cell hin.os hlt
            have hsg := (hin.os.lt sg rfl).2
            have hbl := hin.k0.lt
            have hbr := hin.k3.lt
            have b0 := HIS.out.sb (2 * q)
            have b1 := HIS.out.sb (2 * q + 1)
            have HQ : Hid ((skyL s q N).set q (s.sb (2 * q) % 4, min 4 (s.sb (2 * q) % 4 + s.sb (2 * q + 1) % 3)) = skyL s (q + 1) N) := hide (skyL_set s hlt)
            have HIQ := hide hin
            clear hin
            generalize s.sb (2 * q) = x at *
            generalize s.sb (2 * q + 1) = y at *
            obtain ⟨b00, b01⟩ := b0
            obtain ⟨b10, b11⟩ := b1
            generalize (skyL s q N).getD q (0, 0) = old at *
            go_wp2_with fail
            have hu0 : 0 ≤ x % 4 := by omega
            have hu1 : x % 4 ≤ 3 := by omega
            have hv0 : 0 ≤ y % 3 := by omega
            have hv1 : y % 3 ≤ 2 := by omega
            have w1 : IntKind.i64.wrap y = y := IntWalk.i64_in _ (by omega)
            have w2 : y.tmod 3 = y % 3 := Int.tmod_eq_emod_of_nonneg (by omega)
            have w3 : IntKind.i64.wrap (y % 3) = y % 3 := IntWalk.i64_in _ (by omega)
            have w4 : IntKind.i64.wrap (x % 4 + y % 3) = x % 4 + y % 3 := IntWalk.i64_in _ (by omega)
            have w5 : (q : Int) < N := by omega
            have w6 : (q : Int) < 7 := by omega
            go_still_tail 16, (by kernel_rfl)
            have HID := hide ((HIQ.out.drewN 1).setS q (x % 4) (min 4 (x % 4 + y % 3)))
            rw [HQ.out] at HID
            rw [show ({ heap := wr.heap, tape := wr.tape, drawn := wr.drawn + 1, os := wr.os, output := wr.output } : World) = wr.drewN 1 from rfl]
            go_wp2_with fail
            exact ⟨⟨q + 1, by omega, by go_num, HID.out⟩, by simp [intOf]; omega⟩
          · have hqn : q = N := by omega
            have HSK : Hid (skyL s N N = (skyNet s).sp ∧ skyTs s.lk k = (skyNet s).ts ∧ N = 1 + 2 * skyK s) := hide ⟨by unfold skyNet skyL; rw [HN.out, HK.out]; simp, by unfold skyNet; rw [HK.out], by rw [HN.out, HK.out]⟩
            subst hqn
            have HIQ := hide hin
            obtain ⟨n0, n1, nf0, nf1⟩ := hin.k3.two
            have nl := hin.k3.lt
            obtain ⟨m0, m1, mf0, mf1⟩ := hin.k1.two
            have ml := hin.k1.lt
            obtain ⟨ta, tcap, htv, _, _⟩ := own_shape hin.ot
            clear hin
            subst htv
            go_wp2_with fail
            refine bodyPost_ret (v := .agg #[.slice (some ⟨sg, 0, none⟩) q scap, .slice ta k tcap]) (by simp [results, Try.results38, go_sem, m0, m1]) rfl ?_
            obtain ⟨e1, e2, e3⟩ := HSK.out
            have hk := HK.out
            refine ⟨sg, scap, .slice ta k tcap, by rw [← e3], ?_, ?_, ?_⟩
            · rw [HB.out, ← e3, ← e1]
              exact own_set (own_set HIQ.out.os HIQ.out.k1 (by decide)) (HIQ.out.k1.set 0 _) (by decide)
            · rw [HB.out, ← hk, ← e2]
              exact own_set (own_set HIQ.out.ot HIQ.out.k1 (by decide)) (HIQ.out.k1.set 0 _) (by decide)
            · rw [HB.out]
              exact (HIQ.out.be.setCell (p := ⟨b + 1, 0, none⟩) (show b ≤ b + 1 by omega) _).setCell (p := ⟨b + 1, 1, none⟩) (show b ≤ b + 1 by omega) _
    · have HK : Hid (k = skyK s) := hide (by unfold skyK; have := HLN.out; omega)
      obtain ⟨N, hN⟩ : ∃ N, N = 1 + 2 * k := ⟨_, rfl⟩
      have HN := hide hN
      rw [← hN] at hin
      have hN1 : 1 ≤ N := by omega
      have hN7 : N ≤ 7 := by omega
      clear hN
      have HIN := hide hin
      obtain ⟨n0, n1, _⟩ := hin.k3.two
      have hbl := hin.k0.lt
      have hbr := hin.k3.lt
      clear hin
      go_wp2_with fail
      clear n0 n1
      have HIA := HIN
      have HIS : Hid (SkyOk s) := HS
      go_loopw [65] (fun i wq => ∃ q : Nat, q ≤ N ∧ i = .int .i64 (q : Int) ∧ MkIn w b la ln lc s (.slice (some ⟨sg, 0, none⟩) N scap) tv N (skyL s q N) (.slice (some ⟨sg, 0, none⟩) N scap) k (skyTs s.lk k) tv wq) (fun i _ => N - (intOf i).toNat)
      case atStart => exact ⟨0, Nat.zero_le _, rfl, by rw [show skyL s 0 N = List.replicate N (0, 0) by simp [skyL], HN.out]; rw [HN.out] at HIA; exact HIA.out⟩
      case round =>
        clear HIN HIA hbl hbr
        obtain ⟨q, hq, rfl, hin⟩ := hrel
        by_cases hlt : q < N
        · obtain ⟨x0, x1⟩ := hin.lo (q := q) (by omega)
          obtain ⟨n0, n1, _⟩ := hin.k3.two
          obtain ⟨c0, c1, f0, f1⟩ := own2_cell hin.os hlt
          have hsg := (hin.os.lt sg rfl).2
          have hbl := hin.k0.lt
          have hbr := hin.k3.lt
          have b0 := HIS.out.sb (2 * q)
          have b1 := HIS.out.sb (2 * q + 1)
          have HQ : Hid ((skyL s q N).set q (s.sb (2 * q) % 4, min 4 (s.sb (2 * q) % 4 + s.sb (2 * q + 1) % 3)) = skyL s (q + 1) N) := hide (skyL_set s hlt)
          have HIQ := hide hin
          clear hin
          generalize s.sb (2 * q) = x at *
          generalize s.sb (2 * q + 1) = y at *
          obtain ⟨b00, b01⟩ := b0
          obtain ⟨b10, b11⟩ := b1
          generalize (skyL s q N).getD q (0, 0) = old at *
          go_wp2_with fail
          have hu0 : 0 ≤ x % 4 := by omega
          have hu1 : x % 4 ≤ 3 := by omega
          have hv0 : 0 ≤ y % 3 := by omega
          have hv1 : y % 3 ≤ 2 := by omega
          have w1 : IntKind.i64.wrap y = y := IntWalk.i64_in _ (by omega)
          have w2 : y.tmod 3 = y % 3 := Int.tmod_eq_emod_of_nonneg (by omega)
          have w3 : IntKind.i64.wrap (y % 3) = y % 3 := IntWalk.i64_in _ (by omega)
          have w4 : IntKind.i64.wrap (x % 4 + y % 3) = x % 4 + y % 3 := IntWalk.i64_in _ (by omega)
          have w5 : (q : Int) < N := by omega
          have w6 : (q : Int) < 7 := by omega
          go_still_tail 16, (by kernel_rfl)
          have HID := hide ((HIQ.out.drewN 1).setS q (x % 4) (min 4 (x % 4 + y % 3)))
          rw [HQ.out] at HID
          rw [show ({ heap := wr.heap, tape := wr.tape, drawn := wr.drawn + 1, os := wr.os, output := wr.output } : World) = wr.drewN 1 from rfl]
          go_wp2_with fail
          exact ⟨⟨q + 1, by omega, by go_num, HID.out⟩, by simp [intOf]; omega⟩
        · have hqn : q = N := by omega
          have HSK : Hid (skyL s N N = (skyNet s).sp ∧ skyTs s.lk k = (skyNet s).ts ∧ N = 1 + 2 * skyK s) := hide ⟨by unfold skyNet skyL; rw [HN.out, HK.out]; simp, by unfold skyNet; rw [HK.out], by rw [HN.out, HK.out]⟩
          subst hqn
          have HIQ := hide hin
          obtain ⟨n0, n1, nf0, nf1⟩ := hin.k3.two
          have nl := hin.k3.lt
          obtain ⟨m0, m1, mf0, mf1⟩ := hin.k1.two
          have ml := hin.k1.lt
          obtain ⟨ta, tcap, htv, _, _⟩ := own_shape hin.ot
          clear hin
          subst htv
          go_wp2_with fail
          refine bodyPost_ret (v := .agg #[.slice (some ⟨sg, 0, none⟩) q scap, .slice ta k tcap]) (by simp [results, Try.results38, go_sem, m0, m1]) rfl ?_
          obtain ⟨e1, e2, e3⟩ := HSK.out
          have hk := HK.out
          refine ⟨sg, scap, .slice ta k tcap, by rw [← e3], ?_, ?_, ?_⟩
          · rw [HB.out, ← e3, ← e1]
            exact own_set (own_set HIQ.out.os HIQ.out.k1 (by decide)) (HIQ.out.k1.set 0 _) (by decide)
          · rw [HB.out, ← hk, ← e2]
            exact own_set (own_set HIQ.out.ot HIQ.out.k1 (by decide)) (HIQ.out.k1.set 0 _) (by decide)
          · rw [HB.out]
            exact (HIQ.out.be.setCell (p := ⟨b + 1, 0, none⟩) (show b ≤ b + 1 by omega) _).setCell (p := ⟨b + 1, 1, none⟩) (show b ≤ b + 1 by omega) _

end Go.Proofs.Ytlbhnicengolfaa
