/-
  Package total: narrow.
-/
import Derived.Test.YtlbhnicengolfaaOwnS
import Derived.Test.YtlbhnicengolfaaInvL
namespace Go.Proofs.Ytlbhnicengolfaa
open Go.RowKit
set_option linter.unusedVariables false
set_option linter.unusedSimpArgs false

/-- Between the triangles. -/
structure NSt (w : World) (B g m cap : Nat) (sa ta : Option Addr) (sn sc tn tc : Nat) (ls : List Sp) (W : World) : Prop where
  gr : w.grownBy W (some g)
  own : W.ownsRow B 99 2 (.slice (some ⟨g, 0, none⟩) m cap) m (spans ls)
  net : Blk W w.heap.size #[.slice sa sn sc, .slice ta tn tc] 25
theorem NSt.kept {w : World} {B g m cap : Nat} {sa ta : Option Addr} {sn sc tn tc : Nat} {ls : List Sp} {W W' : World} (h : NSt w B g m cap sa ta sn sc tn tc ls W) (hb : Below W.heap.size W W') : NSt w B g m cap sa ta sn sc tn tc ls W' :=
  ⟨grownBy_trans h.gr (grownBy_below hb _), own_kept h.own hb, h.net.kept hb⟩
theorem NSt.store {w : World} {B g m cap : Nat} {sa ta : Option Addr} {sn sc tn tc : Nat} {ls : List Sp} {W : World} (h : NSt w B g m cap sa ta sn sc tn tc ls W) (hg : g < w.heap.size) (q : Nat) (x y : Int) :
    NSt w B g m cap sa ta sn sc tn tc (ls.set q (x, y)) ((W.setCell ⟨g, q * 2, none⟩ (.int .i64 x)).setCell ⟨g, q * 2 + 1, none⟩ (.int .i64 y)) :=
  ⟨grownBy_trans h.gr (grownBy_trans (own2_grown _ _ _ _) (own2_grown _ _ _ _)), own2_set h.own q x y, (h.net.other (p := ⟨g, q * 2, none⟩) (by show w.heap.size ≠ g; omega) _).other (p := ⟨g, q * 2 + 1, none⟩) (by show w.heap.size ≠ g; omega) _⟩

theorem stored2 {w : World} {b : Nat} {z1 z2 : Value} {t : TypeId} (hk : Blk w b #[z1, z2] t) (x y : Value) : storeUpon w b #[x, y] t (.ok .skip ((w.setCell ⟨b, 0, none⟩ x).setCell ⟨b, 1, none⟩ y)) :=
  ⟨grownBy_trans (own2_grown _ _ _ _) (own2_grown _ _ _ _), by simp [World.setCell], hk.set2 x y⟩

/-- The stages of one triangle. -/
def stage (ls : List Sp) (a b c : Nat) : Nat → List Sp
  | 0 => ls
  | 1 => narW ls (spA ls a) (spA ls b) c
  | 2 => narL (narW ls (spA ls a) (spA ls b) c) (spA ls c) (spA ls b) a
  | _ => nar1 ls ((a : Int), (b : Int), (c : Int))

/-- The three elements that narrow ranges over. -/
abbrev cells12 (a b c : Nat) (Sa Sb Sc : Sp) : Array Value :=
  #[.int .i64 (c : Int), .func (.func 76) #[.agg #[.int .i64 Sa.1, .int .i64 Sa.2]] #[], .int .i64 Sb.1, .int .i64 Sb.2,
    .int .i64 (a : Int), .func (.func 77) #[.agg #[.int .i64 Sc.1, .int .i64 Sc.2]] #[], .int .i64 Sb.1, .int .i64 Sb.2,
    .int .i64 (b : Int), .func (.func 77) #[.agg #[.int .i64 Sc.1, .int .i64 Sc.2]] #[], .int .i64 Sa.1, .int .i64 Sa.2]

theorem el3 (L : List Sp) (a b c m : Nat) (Sa Sb Sc : Sp) (M : Int) (h0 : 0 ≤ M) (h1 : M ≤ 1000000000000000000) (hB : LsB M L) (ha : a < m) (hb : b < m) (hc : c < m) (hSa : Sa = L.getD a (0, 0)) (hSb : Sb = L.getD b (0, 0)) (hSc : Sc = L.getD c (0, 0)) (j : Nat) (hj : j < 3) :
    ∃ (qx fv : Nat) (rc of res : Sp), qx < m ∧ (cells12 a b c Sa Sb Sc)[j * 4]? = some (.int .i64 (qx : Int)) ∧ (cells12 a b c Sa Sb Sc)[j * 4 + 1]? = some (.func (.func fv) #[.agg #[.int .i64 rc.1, .int .i64 rc.2]] #[]) ∧
      (cells12 a b c Sa Sb Sc)[j * 4 + 2]? = some (.int .i64 of.1) ∧ (cells12 a b c Sa Sb Sc)[j * 4 + 3]? = some (.int .i64 of.2) ∧
      Hid (stage L a b c (j + 1) = (stage L a b c j).set qx ((bothS ((stage L a b c j).getD qx (0, 0)) res).1, (bothS ((stage L a b c j).getD qx (0, 0)) res).2)) ∧
      Hid (∀ W, Calls Try.prog fv #[.agg #[.int .i64 rc.1, .int .i64 rc.2], .agg #[.int .i64 of.1, .int .i64 of.2]] W fun e w' => e = .returned (.agg #[.int .i64 res.1, .int .i64 res.2]) ∧ Below W.heap.size W w') ∧
      ∀ args w, (callFunc fv args).run Try.prog w = .ok (.enter fv args) w := by
  have BA : SpB M Sa := by have := hB.at h0 (a : Int); rw [hSa]; simpa [spA] using this
  have BB : SpB M Sb := by have := hB.at h0 (b : Int); rw [hSb]; simpa [spA] using this
  have BC : SpB M Sc := by have := hB.at h0 (c : Int); rw [hSc]; simpa [spA] using this
  have eA : spA L (a : Int) = Sa := by rw [hSa]; simp [spA]
  have eB : spA L (b : Int) = Sb := by rw [hSb]; simp [spA]
  have eC : spA L (c : Int) = Sc := by rw [hSc]; simp [spA]
  have hj' : j = 0 ∨ j = 1 ∨ j = 2 := by omega
  rcases hj' with rfl | rfl | rfl
  · exact ⟨c, 76, Sa, Sb, plusS Sa Sb, hc, rfl, rfl, rfl, rfl, hide (by simp [stage, narW, setA, spA] at *; rw [eA, eB]), hide (fun W => plus_any Sa Sb W M h1 h0 BA BB), enters_of Try.func76 (by kernel_rfl) rfl⟩
  · exact ⟨a, 77, Sc, Sb, minusS Sc Sb, ha, rfl, rfl, rfl, rfl, hide (by show narL (stage L a b c 1) (spA L c) (spA L b) a = _; unfold narL setA; rw [eB, eC]; simp only [spA, Int.toNat_natCast]), hide (fun W => minus_any Sc Sb W M h1 h0 BC BB), enters_of Try.func77 (by kernel_rfl) rfl⟩
  · exact ⟨b, 77, Sc, Sa, minusS Sc Sa, hb, rfl, rfl, rfl, rfl, hide (by show narL (stage L a b c 2) (spA L c) (spA L a) b = _; unfold narL setA; rw [eA, eC]; simp only [spA, Int.toNat_natCast]), hide (fun W => minus_any Sc Sa W M h1 h0 BC BA), enters_of Try.func77 (by kernel_rfl) rfl⟩
def nGood (lv : Value) (p6 g a b c : Nat) (sa sb sc : Sp) : Nat → Value → Prop
  | 0, v => v = lv
  | 1, v => v = .pointer (some ⟨p6, 0, none⟩)
  | 2, v => v = .int .i64 (a : Int)
  | 3, v => v = .pointer (some ⟨g, a * 2, none⟩)
  | 4, v => v = .agg #[.int .i64 sa.1, .int .i64 sa.2]
  | 5, v => v = lv
  | 6, v => v = .pointer (some ⟨p6, 1, none⟩)
  | 7, v => v = .int .i64 (b : Int)
  | 8, v => v = .pointer (some ⟨g, b * 2, none⟩)
  | 9, v => v = .agg #[.int .i64 sb.1, .int .i64 sb.2]
  | 10, v => v = lv
  | 11, v => v = .pointer (some ⟨p6, 2, none⟩)
  | 12, v => v = .int .i64 (c : Int)
  | 13, v => v = .pointer (some ⟨g, c * 2, none⟩)
  | 14, v => v = .agg #[.int .i64 sc.1, .int .i64 sc.2]
  | _, _ => True
def oGood (lv fn : Value) (p11 g q : Nat) (old of res : Sp) : Nat → World → Value → Prop
  | 0, _, v => v = lv
  | 1, _, v => v = .pointer (some ⟨p11, 0, none⟩)
  | 2, _, v => v = .int .i64 (q : Int)
  | 3, _, v => v = lv
  | 4, _, v => v = .pointer (some ⟨p11, 0, none⟩)
  | 5, _, v => v = .int .i64 (q : Int)
  | 6, _, v => v = .pointer (some ⟨g, q * 2, none⟩)
  | 7, _, v => v = .agg #[.int .i64 old.1, .int .i64 old.2]
  | 8, _, v => v = .pointer (some ⟨p11, 1, none⟩)
  | 9, _, v => v = fn
  | 10, _, v => v = .pointer (some ⟨p11, 2, none⟩)
  | 11, _, v => v = .agg #[.int .i64 of.1, .int .i64 of.2]
  | 12, _, v => v = .agg #[.int .i64 res.1, .int .i64 res.2]
  | 13, _, v => v = .agg #[.int .i64 (bothS old res).1, .int .i64 (bothS old res).2]
  | 14, _, v => v = .pointer (some ⟨g, q * 2, none⟩)
  | _, _, v => v = .bool true
theorem oGood_below {lv fn : Value} {p11 g q : Nat} {old of res : Sp} (i : Nat) (w w' : World) (v : Value) (h : (oGood lv fn p11 g q old of res) i w v) (hb : Below w.heap.size w w') : (oGood lv fn p11 g q old of res) i w' v := by
  unfold oGood at h
  split at h <;> first | exact h | (unfold oGood; split <;> first | exact h | (exfalso; simp_all))

set_option maxRecDepth 100000 in
set_option maxHeartbeats 8000000 in
theorem narrow_any (ts : List Tri) (ls : List Sp) (B g m cap : Nat) (sa ta : Option Addr) (sn sc tn tc : Nat) (w : World) (htn : tn = ts.length) (ht5 : tn ≤ 5) (htc : tn ≤ tc) (htc2 : tc ≤ 9223372036854775807) (hm : m ≤ 1000000)
    (hin : ∀ t ∈ ts, ∀ o ∈ cor t, 0 ≤ o ∧ o < m) (hls : LsB 100000000 ls) (hB : B ≤ w.heap.size) (hrow : Row w B ta (tris ts)) (hown : w.ownsRow B 99 2 (.slice (some ⟨g, 0, none⟩) m cap) m (spans ls)) :
    Calls Try.prog 58 #[netV sa ta sn sc tn tc, .slice (some ⟨g, 0, none⟩) m cap] w fun e w' =>
      e = .returned (.bool (narOk ts ls)) ∧ w'.ownsRow B 99 2 (.slice (some ⟨g, 0, none⟩) m cap) m (spans (narT ts ls)) ∧ w.grownBy w' (some g) := by
  have hgl := (hown.lt g rfl)
  have hgw : g < w.heap.size := hgl.2
  have hBg : B ≤ g := hgl.1
  have hmc : m ≤ cap := by obtain ⟨_, _, _, h, _⟩ := own2_blk hown; exact h
  have HTN := hide htn
  have HIN := hide hin
  have HLS := hide hls
  have HROW := hide hrow
  have N0 : NSt w B g m cap sa ta sn sc tn tc ls (w.alloc (.cells #[.slice sa sn sc, .slice ta tn tc] 25)) := ⟨grownBy_below ((Below.refl _ _).alloc (Nat.le_refl _) _) _, hown.alloc _, Blk.new w _ _⟩
  clear htn hin hls hrow hown hgl
  go_enter Try.func58, Try.ntmps58
  go_wp2_with fail
  go_loopw [16] (fun i wr => ∃ r : Nat, r ≤ tn + 1 ∧ i = .int .i64 (r : Int) ∧ Hid (LsB (MB (r * tn)) (narN ts r ls)) ∧ NSt w B g m cap sa ta sn sc tn tc (narN ts r ls) wr) (fun i _ => tn + 1 - (intOf i).toNat)
  case atStart => exact ⟨0, Nat.zero_le _, rfl, hide (by rw [Nat.zero_mul]; exact HLS.out), N0⟩
  case round =>
    clear N0
    obtain ⟨r, hr, rfl, HB, N⟩ := hrel
    by_cases hrt : r < tn + 1
    · obtain ⟨n0, n1, _⟩ := N.net.two
      have ln := N.net.lt
      go_wp2_with fail
      clear n0 n1 ln
      go_loopw [21] (fun i wr => ∃ k : Nat, k ≤ tn ∧ i = .int .i64 (k : Int) ∧ Hid (LsB (MB (r * tn + k)) ((ts.take k).foldl nar1 (narN ts r ls))) ∧ NSt w B g m cap sa ta sn sc tn tc ((ts.take k).foldl nar1 (narN ts r ls)) wr) (fun i _ => tn - (intOf i).toNat)
      case atStart => exact ⟨0, Nat.zero_le _, rfl, hide (by rw [Nat.add_zero]; exact HB.out), N⟩
      case round =>
        clear N
        obtain ⟨k, hk, rfl, HBK, N⟩ := hrel
        by_cases hlt : k < tn
        · have hkl : k < ts.length := by rw [← HTN.out]; exact hlt
          have hrow2 := HROW.out.grownBy N.gr hB (fun k e => by cases e; exact hBg)
          obtain ⟨tb, toff, hta, htb, hcell⟩ := hrow2.tri (by rw [← HTN.out]; omega)
          obtain ⟨t0, t1, t2⟩ := hcell k hkl
          have htk : (ts.take (k + 1)).foldl nar1 (narN ts r ls) = nar1 ((ts.take k).foldl nar1 (narN ts r ls)) (tri ts k) := by rw [tri_take hkl, List.foldl_append]; rfl
          have hmem : tri ts k ∈ ts := by rw [tri_eq hkl]; exact List.getElem_mem hkl
          have hi := HIN.out _ hmem
          have hcnt : r * tn + k + 1 ≤ 30 := by
            have : r * tn ≤ 5 * 5 := Nat.mul_le_mul (by omega) ht5
            omega
          generalize (ts.take k).foldl nar1 (narN ts r ls) = L at *
          generalize tri ts k = t at *
          obtain ⟨a', b', c'⟩ := t
          have ha := hi a' (by simp [cor])
          have hb := hi b' (by simp [cor])
          have hc := hi c' (by simp [cor])
          obtain ⟨a, rfl⟩ : ∃ a : Nat, a' = (a : Int) := ⟨a'.toNat, by omega⟩
          obtain ⟨b, rfl⟩ : ∃ a : Nat, b' = (a : Int) := ⟨b'.toNat, by omega⟩
          obtain ⟨c, rfl⟩ : ∃ a : Nat, c' = (a : Int) := ⟨c'.toNat, by omega⟩
          have ha1 : a < m := by omega
          have hb1 : b < m := by omega
          have hc1 : c < m := by omega
          dsimp only at t0 t1 t2
          have HTK := hide htk
          have HNB := hide (nar1_B (MB_pos _) HBK.out ((a : Int), (b : Int), (c : Int)))
          rw [← MB_succ] at HNB
          have HCNT := hide hcnt
          have htw : tb < wr.heap.size := by have := N.gr.size; omega
          clear htk hmem hi hcnt hcell hrow2 ha hb hc hkl
          go_upto_region 6 with (fail)
          obtain ⟨p6, hp6⟩ : ∃ p, p = wr.heap.size := ⟨_, rfl⟩
          have h6 := Blk.new wr #[.int .i64 (a : Int), .int .i64 (b : Int), .int .i64 (c : Int)] 75
          have N6 := N.kept ((Below.refl _ _).alloc (Nat.le_refl _) (.cells #[.int .i64 (a : Int), .int .i64 (b : Int), .int .i64 (c : Int)] 75))
          have hp6w : w.heap.size < p6 := by rw [hp6]; exact N.net.lt
          rw [← hp6] at h6 ⊢
          generalize World.alloc wr _ = V at *
          clear hp6 t0 t1 t2 htw N
          have HSP := hide (fun (W' : World) (hb : Below V.heap.size V W') => (⟨⟨(own2_cell (own_kept N6.own hb) ha1).1, (own2_cell (own_kept N6.own hb) ha1).2.1⟩, ⟨(own2_cell (own_kept N6.own hb) hb1).1, (own2_cell (own_kept N6.own hb) hb1).2.1⟩, ⟨(own2_cell (own_kept N6.own hb) hc1).1, (own2_cell (own_kept N6.own hb) hc1).2.1⟩⟩ : (_ ∧ _) ∧ (_ ∧ _) ∧ (_ ∧ _)))
          obtain ⟨Sa, hSa⟩ : ∃ s : Sp, s = L.getD a (0, 0) := ⟨_, rfl⟩
          obtain ⟨Sb, hSb⟩ : ∃ s : Sp, s = L.getD b (0, 0) := ⟨_, rfl⟩
          obtain ⟨Sc, hSc⟩ : ∃ s : Sp, s = L.getD c (0, 0) := ⟨_, rfl⟩
          rw [← hSa, ← hSb, ← hSc] at HSP
          have HSA := hide hSa
          have HSB := hide hSb
          have HSC := hide hSc
          clear hSa hSb hSc
          refine wp_region_boxes 15 3 (fun j => ⟨7 + j, #[.int .i64 0, .int .i64 0], (if j = 0 then #[.int .i64 Sa.1, .int .i64 Sa.2] else if j = 1 then #[.int .i64 Sb.1, .int .i64 Sb.2] else #[.int .i64 Sc.1, .int .i64 Sc.2]), 99⟩)
            (nGood (.slice (some ⟨g, 0, none⟩) m cap) p6 g a b c Sa Sb Sc) (N := 85) (by kernel_rfl) (by decide +kernel) rfl ?new ?steps ?sto ?_
          case new =>
            intro j hj
            have hj' : j = 0 ∨ j = 1 ∨ j = 2 := by omega
            rcases hj' with rfl | rfl | rfl <;> exact ⟨_, rfl, rfl, rfl, (by intro cs b h; cases h), fun ev w => by simp [go_sem]⟩
          case sto =>
            intro j o hj ho ac w' b h hs hb hk
            obtain ⟨e1, e2, e3, e4⟩ := hk.two
            have hj' : j = 0 ∨ j = 1 ∨ j = 2 := by omega
            rcases hj' with rfl | rfl | rfl
            · cases ho
              have x1 : ac.tmps.getD 29 undef = .agg #[.int .i64 Sa.1, .int .i64 Sa.2] := h.val 4 29 (by omega) rfl rfl
              simp at x1 hs
              clear h
              go_simp
              exact stored2 hk _ _
            · cases ho
              have x1 : ac.tmps.getD 34 undef = .agg #[.int .i64 Sb.1, .int .i64 Sb.2] := h.val 9 34 (by omega) rfl rfl
              simp at x1 hs
              clear h
              go_simp
              exact stored2 hk _ _
            · cases ho
              have x1 : ac.tmps.getD 39 undef = .agg #[.int .i64 Sc.1, .int .i64 Sc.2] := h.val 14 39 (by omega) rfl rfl
              simp at x1 hs
              clear h
              go_simp
              exact stored2 hk _ _
          case steps =>
            refine ⟨?_, ?_, ?_, ?_, ?_, ?_, ?_, ?_, ?_, ?_, ?_, ?_, ?_, ?_, ?_, trivial⟩
            · intro ac w' h
              have e1 : ac.tmps.getD 1 undef = .slice (some ⟨g, 0, none⟩) m cap := h.old 1 rfl
              refine ⟨wanted_none rfl, ?_⟩
              simp at e1
              have HBE := hide h.be
              clear h
              go_simp
              exact ⟨rfl, rfl⟩
            · intro ac w' h
              have e6 : ac.tmps.getD 6 undef = .pointer (some ⟨p6, 0, none⟩) := h.old 6 rfl
              refine ⟨wanted_none rfl, ?_⟩
              simp at e6
              have HBE := hide h.be
              clear h
              go_simp
              exact ⟨rfl, rfl⟩
            · intro ac w' h
              have e26 : ac.tmps.getD 26 undef = .pointer (some ⟨p6, 0, none⟩) := h.val 1 26 (by omega) rfl rfl
              refine ⟨wanted_none rfl, ?_⟩
              simp at e26
              have q := (h6.kept h.be).three
              have HBE := hide h.be
              clear h
              go_simp
              exact ⟨rfl, rfl⟩
            · intro ac w' h
              have e25 : ac.tmps.getD 25 undef = .slice (some ⟨g, 0, none⟩) m cap := h.val 0 25 (by omega) rfl rfl
              have e27 : ac.tmps.getD 27 undef = .int .i64 (a : Int) := h.val 2 27 (by omega) rfl rfl
              refine ⟨wanted_none rfl, ?_⟩
              simp at e25 e27
              have HBE := hide h.be
              clear h
              go_simp
              exact ⟨rfl, rfl⟩
            · intro ac w' h
              have e28 : ac.tmps.getD 28 undef = .pointer (some ⟨g, a * 2, none⟩) := h.val 3 28 (by omega) rfl rfl
              refine ⟨wanted_none rfl, ?_⟩
              simp at e28
              have q := HSP.out w' h.be
              obtain ⟨q1, q2⟩ := q.1
              have HBE := hide h.be
              clear h
              go_simp
              exact ⟨rfl, rfl⟩
            · intro ac w' h
              have e1 : ac.tmps.getD 1 undef = .slice (some ⟨g, 0, none⟩) m cap := h.old 1 rfl
              refine ⟨wanted_none rfl, ?_⟩
              simp at e1
              have HBE := hide h.be
              clear h
              go_simp
              exact ⟨rfl, rfl⟩
            · intro ac w' h
              have e6 : ac.tmps.getD 6 undef = .pointer (some ⟨p6, 0, none⟩) := h.old 6 rfl
              refine ⟨wanted_none rfl, ?_⟩
              simp at e6
              have HBE := hide h.be
              clear h
              go_simp
              exact ⟨rfl, rfl⟩
            · intro ac w' h
              have e31 : ac.tmps.getD 31 undef = .pointer (some ⟨p6, 1, none⟩) := h.val 6 31 (by omega) rfl rfl
              refine ⟨wanted_none rfl, ?_⟩
              simp at e31
              have q := (h6.kept h.be).three
              have HBE := hide h.be
              clear h
              go_simp
              exact ⟨rfl, rfl⟩
            · intro ac w' h
              have e30 : ac.tmps.getD 30 undef = .slice (some ⟨g, 0, none⟩) m cap := h.val 5 30 (by omega) rfl rfl
              have e32 : ac.tmps.getD 32 undef = .int .i64 (b : Int) := h.val 7 32 (by omega) rfl rfl
              refine ⟨wanted_none rfl, ?_⟩
              simp at e30 e32
              have HBE := hide h.be
              clear h
              go_simp
              exact ⟨rfl, rfl⟩
            · intro ac w' h
              have e33 : ac.tmps.getD 33 undef = .pointer (some ⟨g, b * 2, none⟩) := h.val 8 33 (by omega) rfl rfl
              refine ⟨wanted_none rfl, ?_⟩
              simp at e33
              have q := HSP.out w' h.be
              obtain ⟨q1, q2⟩ := q.2.1
              have HBE := hide h.be
              clear h
              go_simp
              exact ⟨rfl, rfl⟩
            · intro ac w' h
              have e1 : ac.tmps.getD 1 undef = .slice (some ⟨g, 0, none⟩) m cap := h.old 1 rfl
              refine ⟨wanted_none rfl, ?_⟩
              simp at e1
              have HBE := hide h.be
              clear h
              go_simp
              exact ⟨rfl, rfl⟩
            · intro ac w' h
              have e6 : ac.tmps.getD 6 undef = .pointer (some ⟨p6, 0, none⟩) := h.old 6 rfl
              refine ⟨wanted_none rfl, ?_⟩
              simp at e6
              have HBE := hide h.be
              clear h
              go_simp
              exact ⟨rfl, rfl⟩
            · intro ac w' h
              have e36 : ac.tmps.getD 36 undef = .pointer (some ⟨p6, 2, none⟩) := h.val 11 36 (by omega) rfl rfl
              refine ⟨wanted_none rfl, ?_⟩
              simp at e36
              have q := (h6.kept h.be).three
              have HBE := hide h.be
              clear h
              go_simp
              exact ⟨rfl, rfl⟩
            · intro ac w' h
              have e35 : ac.tmps.getD 35 undef = .slice (some ⟨g, 0, none⟩) m cap := h.val 10 35 (by omega) rfl rfl
              have e37 : ac.tmps.getD 37 undef = .int .i64 (c : Int) := h.val 12 37 (by omega) rfl rfl
              refine ⟨wanted_none rfl, ?_⟩
              simp at e35 e37
              have HBE := hide h.be
              clear h
              go_simp
              exact ⟨rfl, rfl⟩
            · intro ac w' h
              have e38 : ac.tmps.getD 38 undef = .pointer (some ⟨g, c * 2, none⟩) := h.val 13 38 (by omega) rfl rfl
              refine ⟨wanted_none rfl, ?_⟩
              simp at e38
              have q := HSP.out w' h.be
              obtain ⟨q1, q2⟩ := q.2.2
              have HBE := hide h.be
              clear h
              go_simp
              exact ⟨rfl, rfl⟩
          intro vs bs w2 hb2 hv hbx hne
          have v0 := hv 0 (by omega)
          have v1 := hv 1 (by omega)
          have v2 := hv 2 (by omega)
          have v3 := hv 3 (by omega)
          have v4 := hv 4 (by omega)
          have v5 := hv 5 (by omega)
          have v6 := hv 6 (by omega)
          have v7 := hv 7 (by omega)
          have v8 := hv 8 (by omega)
          have v9 := hv 9 (by omega)
          have v10 := hv 10 (by omega)
          have v11 := hv 11 (by omega)
          have v12 := hv 12 (by omega)
          have v13 := hv 13 (by omega)
          have v14 := hv 14 (by omega)
          obtain ⟨v15, hp7, k7⟩ : vs 15 = .pointer (some ⟨bs 0, 0, none⟩) ∧ V.heap.size ≤ bs 0 ∧ Blk w2 (bs 0) #[.int .i64 Sa.1, .int .i64 Sa.2] 99 := hbx 0 (by omega)
          obtain ⟨v16, hp8, k8⟩ : vs 16 = .pointer (some ⟨bs 1, 0, none⟩) ∧ V.heap.size ≤ bs 1 ∧ Blk w2 (bs 1) #[.int .i64 Sb.1, .int .i64 Sb.2] 99 := hbx 1 (by omega)
          obtain ⟨v17, hp9, k9⟩ : vs 17 = .pointer (some ⟨bs 2, 0, none⟩) ∧ V.heap.size ≤ bs 2 ∧ Blk w2 (bs 2) #[.int .i64 Sc.1, .int .i64 Sc.2] 99 := hbx 2 (by omega)
          simp only [nGood] at v0 v1 v2 v3 v4 v5 v6 v7 v8 v9 v10 v11 v12 v13 v14
          simp only [List.take_succ_cons, List.take_zero, putSeq, Act.put, List.setIfInBounds_toArray, List.set_cons_zero, List.set_cons_succ, v0, v1, v2, v3, v4, v5, v6, v7, v8, v9, v10, v11, v12, v13, v14, v15, v16, v17]
          have h62 := h6.kept (hb2.mono (Nat.le_refl _) : Below V.heap.size V w2)
          have N7 := N6.kept hb2
          generalize bs 0 = p7 at *
          generalize bs 1 = p8 at *
          generalize bs 2 = p9 at *
          clear hv hbx hne v0 v1 v2 v3 v4 v5 v6 v7 v8 v9 v10 v11 v12 v13 v14 v15 v16 v17 HSP h6 N6 hb2 hp7 hp8 hp9
          obtain ⟨x0, x1, x2, _⟩ := h62.three
          obtain ⟨a0, a1, _⟩ := k7.two
          obtain ⟨b0, b1, _⟩ := k8.two
          obtain ⟨c0, c1, _⟩ := k9.two
          have l6 := h62.lt
          have l7 := k7.lt
          have l8 := k8.lt
          have l9 := k9.lt
          have HBK2 := HBK.out
          have hMp := MB_pos (r * tn + k)
          have hM30 := MB_30 (c := r * tn + k) (by have := HCNT.out; omega)
          have HEL := hide (el3 L a b c m Sa Sb Sc (MB (r * tn + k)) hMp (by omega) HBK2 ha1 hb1 hc1 HSA.out HSB.out HSC.out)
          clear HBK2 hMp hM30
          go_wp2_with fail
          have k58 := Blk.new w2 (cells12 a b c Sa Sb Sc) 121
          have N8 := N7.kept ((Below.refl _ _).alloc (Nat.le_refl _) (.cells (cells12 a b c Sa Sb Sc) 121))
          have hg58 : g < w2.heap.size := by have := N7.gr.size; omega
          change Code.wp _ _ _ _ (w2.alloc (.cells (cells12 a b c Sa Sb Sc) _))
          generalize w2.heap.size = p58 at *
          generalize World.alloc w2 _ = V8 at *
          clear h62 k7 k8 k9 N7 x0 x1 x2 a0 a1 b0 b1 c0 c1 l6 l7 l8 l9
          go_loopw [60] (fun i wr => ∃ j : Nat, j ≤ 3 ∧ i = .int .i64 (j : Int) ∧ NSt w B g m cap sa ta sn sc tn tc (stage L a b c j) wr ∧ Blk wr p58 (cells12 a b c Sa Sb Sc) 121) (fun i _ => 3 - (intOf i).toNat)
          case atStart => exact ⟨0, by omega, rfl, N8, k58⟩
          case round =>
            clear N8 k58
            obtain ⟨j, hj, rfl, N8, k58⟩ := hrel
            by_cases hj3 : j < 3
            · obtain ⟨qx, fv, rc, of, res, hqm, i0, i1, i2, i3, HST, HSAY, eg⟩ := HEL.out j hj3
              have HST' := HST
              obtain ⟨old, hold⟩ : ∃ o : Sp, o = (stage L a b c j).getD qx (0, 0) := ⟨_, rfl⟩
              rw [← hold] at HST
              have HOLD := hide hold
              clear hold HST'
              have y0 := (k58.cell (j * 4)).trans i0
              have y1 := (k58.cell (j * 4 + 1)).trans i1
              have y2 := (k58.cell (j * 4 + 2)).trans i2
              have y3 := (k58.cell (j * 4 + 3)).trans i3
              have l58 := k58.lt
              go_upto_region 10 with (fail)
              have h11 := Blk.new wr #[.int .i64 (qx : Int), .func (.func fv) #[.agg #[.int .i64 rc.1, .int .i64 rc.2]] #[], .int .i64 of.1, .int .i64 of.2] 121
              have N9 := N8.kept ((Below.refl _ _).alloc (Nat.le_refl _) (.cells #[.int .i64 (qx : Int), .func (.func fv) #[.agg #[.int .i64 rc.1, .int .i64 rc.2]] #[], .int .i64 of.1, .int .i64 of.2] 121))
              have k9 := k58.alloc (.cells #[.int .i64 (qx : Int), .func (.func fv) #[.agg #[.int .i64 rc.1, .int .i64 rc.2]] #[], .int .i64 of.1, .int .i64 of.2] 121)
              generalize World.alloc wr _ = V9 at *
              generalize wr.heap.size = p11 at *
              clear N8 k58 i0 i1 i2 i3 y0 y1 y2 y3 l58
              refine wp_region_monoF V9 _ 15 (oGood (.slice (some ⟨g, 0, none⟩) m cap) (.func (.func fv) #[.agg #[.int .i64 rc.1, .int .i64 rc.2]] #[]) p11 g qx old of res) (n := 85) (by kernel_rfl) (by decide +kernel) rfl oGood_below ?steps2 ?_
              case steps2 =>
                refine ⟨?_, ?_, ?_, ?_, ?_, ?_, ?_, ?_, ?_, ?_, ?_, ?_, ?_, ?_, ?_, trivial⟩
                · intro ac w' h
                  have e1 : ac.tmps.getD 1 undef = .slice (some ⟨g, 0, none⟩) m cap := h.old 1 rfl
                  refine ⟨wanted_none rfl, ?_⟩
                  simp at e1
                  clear h
                  go_simp
                  exact ⟨Below.refl _ _, rfl⟩
                · intro ac w' h
                  have e11 : ac.tmps.getD 11 undef = .pointer (some ⟨p11, 0, none⟩) := h.old 11 rfl
                  refine ⟨wanted_none rfl, ?_⟩
                  simp at e11
                  clear h
                  go_simp
                  exact ⟨Below.refl _ _, rfl⟩
                · intro ac w' h
                  have e65 : ac.tmps.getD 65 undef = .pointer (some ⟨p11, 0, none⟩) := h.val 1 65 rfl rfl
                  refine ⟨wanted_none rfl, ?_⟩
                  simp at e65
                  have q1 := h11.kept h.be
                  have q2 := q1.cell 0
                  simp at q2
                  clear q1
                  clear h
                  go_simp
                  exact ⟨Below.refl _ _, rfl⟩
                · intro ac w' h
                  have e1 : ac.tmps.getD 1 undef = .slice (some ⟨g, 0, none⟩) m cap := h.old 1 rfl
                  refine ⟨wanted_none rfl, ?_⟩
                  simp at e1
                  clear h
                  go_simp
                  exact ⟨Below.refl _ _, rfl⟩
                · intro ac w' h
                  have e11 : ac.tmps.getD 11 undef = .pointer (some ⟨p11, 0, none⟩) := h.old 11 rfl
                  refine ⟨wanted_none rfl, ?_⟩
                  simp at e11
                  clear h
                  go_simp
                  exact ⟨Below.refl _ _, rfl⟩
                · intro ac w' h
                  have e68 : ac.tmps.getD 68 undef = .pointer (some ⟨p11, 0, none⟩) := h.val 4 68 rfl rfl
                  refine ⟨wanted_none rfl, ?_⟩
                  simp at e68
                  have q1 := h11.kept h.be
                  have q2 := q1.cell 0
                  simp at q2
                  clear q1
                  clear h
                  go_simp
                  exact ⟨Below.refl _ _, rfl⟩
                · intro ac w' h
                  have e67 : ac.tmps.getD 67 undef = .slice (some ⟨g, 0, none⟩) m cap := h.val 3 67 rfl rfl
                  have e69 : ac.tmps.getD 69 undef = .int .i64 (qx : Int) := h.val 5 69 rfl rfl
                  refine ⟨wanted_none rfl, ?_⟩
                  simp at e67 e69
                  clear h
                  go_simp
                  exact ⟨Below.refl _ _, rfl⟩
                · intro ac w' h
                  have e70 : ac.tmps.getD 70 undef = .pointer (some ⟨g, qx * 2, none⟩) := h.val 6 70 rfl rfl
                  refine ⟨wanted_none rfl, ?_⟩
                  simp at e70
                  have q2 := own2_cell (own_kept N9.own h.be) hqm
                  rw [← HOLD.out] at q2
                  obtain ⟨q3, q4, _⟩ := q2
                  clear h
                  go_simp
                  exact ⟨Below.refl _ _, rfl⟩
                · intro ac w' h
                  have e11 : ac.tmps.getD 11 undef = .pointer (some ⟨p11, 0, none⟩) := h.old 11 rfl
                  refine ⟨wanted_none rfl, ?_⟩
                  simp at e11
                  clear h
                  go_simp
                  exact ⟨Below.refl _ _, rfl⟩
                · intro ac w' h
                  have e72 : ac.tmps.getD 72 undef = .pointer (some ⟨p11, 1, none⟩) := h.val 8 72 rfl rfl
                  refine ⟨wanted_none rfl, ?_⟩
                  simp at e72
                  have q1 := h11.kept h.be
                  have q2 := q1.cell 1
                  simp at q2
                  clear q1
                  clear h
                  go_simp
                  exact ⟨Below.refl _ _, rfl⟩
                · intro ac w' h
                  have e11 : ac.tmps.getD 11 undef = .pointer (some ⟨p11, 0, none⟩) := h.old 11 rfl
                  refine ⟨wanted_none rfl, ?_⟩
                  simp at e11
                  clear h
                  go_simp
                  exact ⟨Below.refl _ _, rfl⟩
                · intro ac w' h
                  have e74 : ac.tmps.getD 74 undef = .pointer (some ⟨p11, 2, none⟩) := h.val 10 74 rfl rfl
                  refine ⟨wanted_none rfl, ?_⟩
                  simp at e74
                  have q1 := h11.kept h.be
                  have q2 := q1.cell 2
                  have q3 := q1.cell 3
                  simp at q2 q3
                  clear q1
                  clear h
                  go_simp
                  exact ⟨Below.refl _ _, rfl⟩
                · intro ac w' h
                  have e73 : ac.tmps.getD 73 undef = .func (.func fv) #[.agg #[.int .i64 rc.1, .int .i64 rc.2]] #[] := h.val 9 73 rfl rfl
                  have e75 : ac.tmps.getD 75 undef = .agg #[.int .i64 of.1, .int .i64 of.2] := h.val 11 75 rfl rfl
                  refine ⟨wanted_none rfl, ?_⟩
                  simp at e73 e75
                  clear h
                  go_simp
                  exact (HSAY.out w').mono fun e w'' ⟨he, hb⟩ => ⟨_, he, hb, rfl⟩
                · intro ac w' h
                  have e71 : ac.tmps.getD 71 undef = .agg #[.int .i64 old.1, .int .i64 old.2] := h.val 7 71 rfl rfl
                  have e76 : ac.tmps.getD 76 undef = .agg #[.int .i64 res.1, .int .i64 res.2] := h.val 12 76 rfl rfl
                  refine ⟨wanted_none rfl, ?_⟩
                  simp at e71 e76
                  clear h
                  go_simp
                  exact (both_any old res w').mono fun e w'' ⟨he, hb⟩ => ⟨_, he, hb, rfl⟩
                · intro ac w' h
                  have e64 : ac.tmps.getD 64 undef = .slice (some ⟨g, 0, none⟩) m cap := h.val 0 64 rfl rfl
                  have e66 : ac.tmps.getD 66 undef = .int .i64 (qx : Int) := h.val 2 66 rfl rfl
                  refine ⟨wanted_none rfl, ?_⟩
                  simp at e64 e66
                  clear h
                  go_simp
                  exact ⟨Below.refl _ _, rfl⟩
              intro vs w3 hb3 hv
              have v0 := hv 0 (by omega)
              have v1 := hv 1 (by omega)
              have v2 := hv 2 (by omega)
              have v3 := hv 3 (by omega)
              have v4 := hv 4 (by omega)
              have v5 := hv 5 (by omega)
              have v6 := hv 6 (by omega)
              have v7 := hv 7 (by omega)
              have v8 := hv 8 (by omega)
              have v9 := hv 9 (by omega)
              have v10 := hv 10 (by omega)
              have v11 := hv 11 (by omega)
              have v12 := hv 12 (by omega)
              have v13 := hv 13 (by omega)
              have v14 := hv 14 (by omega)
              simp only [oGood] at v0 v1 v2 v3 v4 v5 v6 v7 v8 v9 v10 v11 v12 v13 v14
              simp only [List.take_succ_cons, List.take_zero, List.drop_succ_cons, List.drop_zero, putSeq, Act.put, List.setIfInBounds_toArray, List.set_cons_zero, List.set_cons_succ, v0, v1, v2, v3, v4, v5, v6, v7, v8, v9, v10, v11, v12, v13, v14]
              have N10 := N9.kept hb3
              have k10 := k9.kept hb3
              clear hv v0 v1 v2 v3 v4 v5 v6 v7 v8 v9 v10 v11 v12 v13 v14 hb3 N9 k9 h11 HSAY eg
              obtain ⟨d0, d1, d2, d3⟩ := own2_cell N10.own hqm
              go_wp2_with fail
              go_roundw
              case rel => exact ⟨j + 1, by omega, by go_num, by rw [HST.out]; exact N10.store hgw qx _ _, (k10.other (p := ⟨g, qx * 2, none⟩) (by show p58 ≠ g; omega) _).other (p := ⟨g, qx * 2 + 1, none⟩) (by show p58 ≠ g; omega) _⟩
              case measure => simp [intOf]; omega
            · obtain rfl : j = 3 := by omega
              go_wp2_with fail
              go_roundw
              case rel => exact ⟨k + 1, by omega, by go_num, by rw [HTK.out]; exact HNB, by rw [HTK.out]; exact N8⟩
              case measure => simp [intOf]; omega
        · have hkt : k = tn := by omega
          have HF : Hid ((ts.take k).foldl nar1 (narN ts r ls) = narN ts (r + 1) ls) := hide (by rw [hkt, HTN.out, List.take_length]; rfl)
          have HK2 : Hid (r * tn + k = (r + 1) * tn) := hide (by rw [hkt, Nat.add_mul, Nat.one_mul])
          clear hkt
          go_wp2_with fail
          go_roundw
          case rel => exact ⟨r + 1, by omega, by go_num, hide (by rw [← HF.out, ← HK2.out]; exact HBK.out), by rw [← HF.out]; exact N⟩
          case measure => simp [intOf]; omega
    · have hrt' : r = tn + 1 := by omega
      have HF : Hid (narN ts r ls = narT ts ls) := hide (by rw [hrt', HTN.out]; rfl)
      rw [HF.out] at N
      have hlen := own2_len N.own
      have HCF := hide (containsFuncT noneS 80 #[] (narT ts ls) (some ⟨g, 0, none⟩) m cap wr hlen (by omega) (own2_row N.own) (enters_of Try.func80 (by kernel_rfl) rfl) (fun x W _ _ => none_any x W))
      have HOK : Hid (narOk ts ls = !(narT ts ls).any noneS) := hide rfl
      clear hrt' hlen HF
      generalize (narT ts ls).any noneS = bb at *
      go_wp2_with fail
      refine HCF.out.mono ?_
      rintro e W2 ⟨rfl, hb2⟩
      have N2 := N.kept hb2
      clear HCF N hb2
      go_wp2_with fail
      go_ret
      exact ⟨by rw [HOK.out]; rfl, N2.own, N2.gr⟩

end Go.Proofs.Ytlbhnicengolfaa

