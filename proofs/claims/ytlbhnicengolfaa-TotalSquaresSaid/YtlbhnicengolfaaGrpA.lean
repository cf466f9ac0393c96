/-
  A map from int to slices of ints that a call made and fills. Package total: links. Package total: group, its closure. A look-up in a map of slices, behind changes of newer blocks.
-/
import Derived.Test.YtlbhnicengolfaaTruth
import Derived.Maps.OwnRows
import Derived.Maps.AppendAt
import Derived.Maps.GroupsBeside
/-! ## Grp: A map from int to slices of ints that a call made and fills. -/
namespace Go.Proofs.Ytlbhnicengolfaa
open Go.RowKit
open Go.Maps (Keyed)
open Go.ChangeShapes (lits)
set_option linter.unusedVariables false
set_option linter.unusedSimpArgs false

def encL (zs : List Int) : DataW Unit := if zs = [] then .nil else .slice (lits .i64 zs) []
/-- Block b is a map that holds these lists, each in a row of its own from base on. -/
def GrpAt (w : World) (b base n : Nat) (f : Int → List Int) : Prop :=
  ∃ D : DataW Unit, w.ownsGroups Try.prog 3 base 3 .i64 b n D ∧ Maps.IsMap D ∧ ∀ x : Int, D.atKey (.int .i64 x) .nil = encL (f x)

theorem GrpAt.lt {w : World} {b base n : Nat} {f : Int → List Int} (h : GrpAt w b base n f) : b < w.heap.size := by
  obtain ⟨D, ⟨es, c, hb, _⟩, _⟩ := h
  exact (Array.getElem?_eq_some_iff.1 hb).1
theorem GrpAt.made {w : World} {b : Nat} (h : b = w.heap.size) : GrpAt (w.alloc (.map #[] 0)) b (b + 1) 0 (fun _ => []) := by
  subst h
  exact ⟨.map [], World.ownsGroups_made _ _ _ _ _, ⟨_, rfl⟩, fun x => rfl⟩
theorem lits_inj {a b : List Int} (h : (lits .i64 a : List (DataW Unit)) = lits .i64 b) : a = b := by
  unfold lits at h
  have := congrArg (List.map fun d : DataW Unit => match d with | .lit (.int _ x) => x | _ => 0) h
  simpa [List.map_map, Function.comp_def] using this
theorem GrpAt.look {w : World} {b base n : Nat} {f : Int → List Int} (h : GrpAt w b base n f) (hn : n ≤ 1000) {x : Int} (h0 : 0 ≤ x) (h1 : x ≤ 1000000) :
    ∃ (D : DataW Unit) (v : Value), (Instr.lookup 114 (.map (some b)) (.int .i64 x) false).run Try.prog w = .ok v w ∧ w.ownsInts base 3 .i64 v (f x) ∧ (f x).length ≤ n ∧
      w.groupBack Try.prog 114 3 base 3 .i64 b n D (.int .i64 x) (.int .i64 x) v ∧ Maps.IsMap D ∧ ∀ x : Int, D.atKey (.int .i64 x) .nil = encL (f x) := by
  obtain ⟨D, ho, hi, ha⟩ := h
  obtain ⟨v, zs, hr, hat, hoi, hzl, hback⟩ := ho.at (t := 114) (E := 38) (Maps.int_keyed Try.underlying3) Try.underlying114 (by kernel_rfl) (by unfold maxLen; omega) (key64 h0 h1)
  rw [ha x] at hat
  have e : zs = f x := by
    rcases hoi.datum (H := Unit) with ⟨hd, hz⟩ | hd
    · rw [hd] at hat
      unfold encL at hat
      split at hat
      · rename_i h; rw [hz, h]
      · cases hat
    · rw [hd] at hat
      unfold encL at hat
      split at hat
      · cases hat
      · have h1 := congrArg (fun d : DataW Unit => match d with | .slice xs _ => xs | _ => []) hat
        exact (lits_inj h1).symm
  subst e
  exact ⟨D, v, hr, hoi, hzl, hback, hi, ha⟩
theorem GrpAt.put {w : World} {D : DataW Unit} {b base n : Nat} {f : Int → List Int} {x : Int} {v' : Value} {zs' : List Int} (hi : Maps.IsMap D) (ha : ∀ x : Int, D.atKey (.int .i64 x) .nil = encL (f x))
    (hv : w.ownsInts base 3 .i64 v' zs') (hne : zs' ≠ []) {w2 : World} (ho : w2.ownsGroups Try.prog 3 base 3 .i64 b n (D.put (.int .i64 x) (rowDatum .i64 v' zs'))) : GrpAt w2 b base n (fun y => if y = x then zs' else f y) := by
  refine ⟨_, ho, hi.put _ _, fun y => ?_⟩
  by_cases e : y = x
  · subst e
    show _ = encL (if y = y then zs' else f y)
    rw [if_pos rfl, Maps.atKey_put_same hi (k := .int .i64 y) trivial, hv.datum_pos hne]
    unfold encL
    rw [if_neg hne]
  · show _ = encL (if y = x then zs' else f y)
    rw [if_neg e, Maps.atKey_put_other (by simpa using e), ha y]

end Go.Proofs.Ytlbhnicengolfaa

/-! ## Links: Package total: links. -/
namespace Go.Proofs.Ytlbhnicengolfaa
open Go.RowKit
set_option linter.unusedVariables false
set_option linter.unusedSimpArgs false

def linkS (f : Int → List Int) (q i : Int) : Int → List Int := fun y => if y = q then f q ++ [i] else f y
def linkT (f : Int → List Int) (t : Tri) (i : Int) : Int → List Int := (cor t).foldl (fun f q => linkS f q i) f
/-- The triangles that each quantity belongs to, of the first k. -/
def linkM (ts : List Tri) : Nat → Int → List Int
  | 0 => fun _ => []
  | k + 1 => linkT (linkM ts k) (tri ts k) (k : Int)

theorem GrpAt.below {w w' : World} {b base n : Nat} {f : Int → List Int} (h : GrpAt w b base n f) (hb : Below w.heap.size w w') : GrpAt w' b base n f := by
  obtain ⟨D, ho, hi, ha⟩ := h
  exact ⟨D, ho.kept (row := none) (grownBy_below hb none) (by simp) (fun es c _ x _ => by cases h : x.val.ownBlock <;> simp), hi, ha⟩

set_option maxRecDepth 100000 in
set_option maxHeartbeats 4000000 in
theorem links_any (n : TNet) (sa ta : Option Addr) (sn sc tn tc : Nat) (w : World) (h : NetIn n sa ta sn tn tc w) (hn : NOk n) :
    Calls Try.prog 69 #[netV sa ta sn sc tn tc] w fun e w' =>
      e = .returned (.map (some (w.heap.size + 1))) ∧ GrpAt w' (w.heap.size + 1) (w.heap.size + 1 + 1) 15 (linkM n.ts tn) ∧ Below w.heap.size w w' := by
  have H := hide h
  have HIN := hide (nok_in hn)
  have ht5 : tn ≤ 5 := by have := h.htn; have := hn.l3; omega
  have hs11 : n.sp.length ≤ 11 := hn.l2
  have hmm := @run_makeMap Try.prog
  obtain ⟨i0, hi, hz0, hz1, hz2⟩ := info_int
  have HI := hide hi
  have kn := (Blk.new w #[.slice sa sn sc, .slice ta tn tc] 25).alloc (.map #[] 0)
  have hg0 : GrpAt ((w.alloc (.cells #[.slice sa sn sc, .slice ta tn tc] 25)).alloc (.map #[] 0)) (w.heap.size + 1) (w.heap.size + 1 + 1) 0 (linkM n.ts 0) := GrpAt.made (by simp)
  have hb0 : Below w.heap.size w ((w.alloc (.cells #[.slice sa sn sc, .slice ta tn tc] 25)).alloc (.map #[] 0)) := ((Below.refl _ _).alloc (Nat.le_refl _) _).alloc (by simp) _
  clear h hn hi
  go_enter Try.func69, Try.ntmps69
  go_wp2_with fail
  go_loopw [12] (fun i wr => ∃ k : Nat, k ≤ tn ∧ i = .int .i64 (k : Int) ∧ GrpAt wr (w.heap.size + 1) (w.heap.size + 1 + 1) (3 * k) (linkM n.ts k) ∧ Below w.heap.size w wr) (fun i _ => tn - (intOf i).toNat)
  case atStart => exact ⟨0, Nat.zero_le _, rfl, hg0, hb0⟩
  case round =>
    clear hg0 hb0 kn hmm
    obtain ⟨k, hk, rfl, hg, hB⟩ := hrel
    have hsz := hg.lt
    by_cases hlt : k < tn
    · have hkl : k < n.ts.length := by have := H.out.htn; omega
      obtain ⟨tb, toff, hta, htb, hcell⟩ := (H.out.below hB).rt.tri (by omega)
      obtain ⟨t0, t1, t2⟩ := hcell k hkl
      have hin := HIN.out (tri n.ts k) (by rw [tri_eq hkl]; exact List.getElem_mem hkl)
      have HLT : Hid (linkM n.ts (k + 1) = linkT (linkM n.ts k) (tri n.ts k) (k : Int)) := hide rfl
      clear hcell hkl
      subst hta
      generalize tri n.ts k = t at *
      obtain ⟨a, b, c⟩ := t
      dsimp only at t0 t1 t2
      have HIN3 : Hid ((0 ≤ a ∧ a ≤ 100) ∧ (0 ≤ b ∧ b ≤ 100) ∧ (0 ≤ c ∧ c ≤ 100)) := hide (by
        have h1 := hin a (by simp [cor]); have h2 := hin b (by simp [cor]); have h3 := hin c (by simp [cor])
        omega)
      have htc := H.out.htc
      go_wp2_with fail
      refine (corners_any a b c _).mono ?_
      rintro e W3 ⟨rfl, hb3⟩
      have hb3' : Below wr.heap.size wr W3 := ((Below.refl _ _).alloc (Nat.le_refl _) _).trans (hb3.mono (by simp))
      have hB3 := hB.trans (hb3'.mono (by omega))
      have hg3 : GrpAt W3 (w.heap.size + 1) (w.heap.size + 1 + 1) (3 * k) (linkM n.ts k) := hg.below hb3'
      clear hb3 hb3' hg hB t0 t1 t2
      generalize linkM n.ts k = F0 at *
      go_wp2_with fail
      go_loopw [19] (fun i wr => ∃ j : Nat, j ≤ 3 ∧ i = .int .i64 (j : Int) ∧ GrpAt wr (w.heap.size + 1) (w.heap.size + 1 + 1) (3 * k + j) ((([a, b, c] : List Int).take j).foldl (fun f q => linkS f q (k : Int)) F0) ∧ Below w.heap.size w wr) (fun i _ => 3 - (intOf i).toNat)
      case atStart => exact ⟨0, by omega, rfl, hg3, hB3⟩
      case round =>
        clear hg3 hB3
        obtain ⟨j, hj, rfl, hg, hB⟩ := hrel
        by_cases hj3 : j < 3
        · obtain ⟨o, ho1, ho2⟩ : ∃ o, ([a, b, c] : List Int)[j]? = some o ∧ 0 ≤ o ∧ o ≤ 100 := by
            have : j = 0 ∨ j = 1 ∨ j = 2 := by omega
            rcases this with rfl | rfl | rfl
            · exact ⟨a, rfl, HIN3.out.1⟩
            · exact ⟨b, rfl, HIN3.out.2.1⟩
            · exact ⟨c, rfl, HIN3.out.2.2⟩
          have HNJ : Hid ((([a, b, c] : List Int).take (j + 1)).foldl (fun f q => linkS f q (k : Int)) F0 = linkS ((([a, b, c] : List Int).take j).foldl (fun f q => linkS f q (k : Int)) F0) o (k : Int)) := hide (by
            rw [List.take_add_one, ho1, List.foldl_append]; rfl)
          have hix : ∀ w, (Instr.index 108 (.agg #[.int .i64 a, .int .i64 b, .int .i64 c]) (.int .i64 (j : Int))).run Try.prog w = .ok (.int .i64 o) w := by
            have : j = 0 ∨ j = 1 ∨ j = 2 := by omega
            rcases this with rfl | rfl | rfl
            all_goals (simp at ho1; subst ho1; intro w; kernel_rfl)
          generalize (([a, b, c] : List Int).take j).foldl (fun f q => linkS f q (k : Int)) F0 = F at *
          obtain ⟨D, v, hr, hoi, hzl, hback, hi, ha⟩ := hg.look (by omega) ho2.1 (by omega)
          have HOI := hide hoi
          have HBK := hide hback
          have HA := hide ha
          have HIM := hide hi
          have hsz := hg.lt
          have HWF : Hid ((Lit.int .i64 (k : Int)).wf = true) := hide (by simp [Lit.wf, IntKind.min, IntKind.max, IntKind.signed, IntKind.bits]; omega)
          have HLE : Hid ((F o ++ [(k : Int)]).length ≤ 3 * k + j + 1) := hide (by rw [List.length_append]; simp only [List.length_singleton]; omega)
          clear ho1 hoi hback ha hi hg
          go_wp2_with (first
            | (at_builtin
               refine wpList_append_own_at _ rfl (.tmp 26) (.tmp 28) 38 rfl (w.heap.size + 1 + 1) 3 i0 (.int .i64 0) 1 8 under_ints HI.out hz0 hz1 hz2 rfl (by decide) _ (F o).length (ints (F o)) rfl (HOI.out.1.alloc _) ⟨wr.heap.size, 0, none⟩ 1 1 [.int .i64 (k : Int)] rfl rfl
                 (World.news_of_block (cs := #[.int .i64 (k : Int)]) (t := 3) (fr := (0, 0)) (Blk.newAt rfl _ _)) (by intro u hu; simp at hu; subst hu; rfl) (by unfold maxLen; omega) (by omega) (by simp; omega) ?_
               intro v' W4 ow4 gr4 nil4 at4
               have OI4 := hide ((HOI.out.alloc (.cells #[.int .i64 (k : Int)] 3)).appended ow4 HWF.out)
               have GR4 := hide (grownBy_trans (World.grownBy_alloc wr (.cells #[.int .i64 (k : Int)] 3) _) gr4)
               have LO4 : Hid (v'.ownBlock = v.ownBlock ∨ ∃ g, v'.ownBlock = some g ∧ wr.heap.size ≤ g) := hide (at4.imp id (fun e => ⟨_, e, by simp⟩))
               clear ow4 gr4 nil4 at4)
            | (at_mapUpdate
               refine wpList_mapUpdate_back _ rfl _ _ _ 114 rfl HBK.out rfl rfl rfl GR4.out OI4.out HLE.out LO4.out ?_
               intro W5 ow5 gr5))
          have hB5 : Below w.heap.size w W5 := by
            have h4 : Below w.heap.size w W4 := ⟨GR4.out.os.trans hB.os, GR4.out.tape.trans hB.tape, GR4.out.output.trans hB.output, Nat.le_trans hB.size GR4.out.size, fun i hi => (GR4.out.block i (by have := hB.size; omega) (fun e => by have := (HOI.out.1.lt i e.symm).1; omega)).trans (hB.block i hi)⟩
            exact ⟨gr5.os.trans h4.os, gr5.tape.trans h4.tape, gr5.output.trans h4.output, Nat.le_trans h4.size gr5.size, fun i hi => (gr5.block i (by have := h4.size; omega) (fun e => by injection e; omega)).trans (h4.block i hi)⟩
          have hg5 := GrpAt.put HIM.out HA.out OI4.out (by simp) ow5
          clear gr5 ow5
          go_roundw
          case rel => exact ⟨j + 1, by omega, by go_num, by rw [HNJ.out]; exact hg5, hB5⟩
          case measure => simp [intOf]; omega
        · have HF : Hid (linkM n.ts (k + 1) = (([a, b, c] : List Int).take j).foldl (fun f q => linkS f q (k : Int)) F0) := hide (by rw [HLT.out, List.take_of_length_le (show ([a, b, c] : List Int).length ≤ j by show 3 ≤ j; omega)]; rfl)
          have hj3' : 3 * k + j = 3 * (k + 1) := by omega
          rw [hj3'] at hg
          clear hj3'
          go_wp2_with fail
          go_roundw
          case rel => exact ⟨k + 1, by omega, by go_num, by rw [HF.out]; exact hg, hB⟩
          case measure => simp [intOf]; omega
    · have hkn : k = tn := by omega
      have hg' : GrpAt wr (w.heap.size + 1) (w.heap.size + 1 + 1) 15 (linkM n.ts tn) := by
        rw [hkn] at hg
        obtain ⟨D, ⟨es, c, h1, h2, h3, h4, h5, h6, h7⟩, hi, ha⟩ := hg
        exact ⟨D, ⟨es, c, h1, h2, by omega, h4, h5, fun x hx zs hz => by have := h6 x hx zs hz; omega, h7⟩, hi, ha⟩
      clear hkn hg
      go_wp2_with fail
      go_ret
      exact ⟨rfl, hg', hB⟩

end Go.Proofs.Ytlbhnicengolfaa

/-! ## Vg: Package total: group, its closure. -/
namespace Go.Proofs.Ytlbhnicengolfaa
open Go.RowKit
set_option linter.unusedVariables false
set_option linter.unusedSimpArgs false

/-- What visit turns. -/
structure GS where
  out : List Int
  left : Int
  good : Bool
/-- One triangle that is linked at q: visitor, counter, state. -/
def gO (vis : Int → Int → Int → GS → GS) (ts : List Tri) (l : List Int) (i q from_ own : Int) (p : Int × GS) (o : Int) : Int × GS :=
  if o ∉ l then p else if o = i ∨ q = from_ then (p.1 + 1, p.2)
  else (p.1 + 1, if 0 < p.2.left then vis o (if (tri ts o.toNat).2.2 = q then own else -own) q p.2 else p.2)
def addO (out : List Int) (q own : Int) : List Int := out.set q.toNat (wrap64 (out.getD q.toNat 0 + own))
/-- One corner. -/
def gC (vis : Int → Int → Int → GS → GS) (ts : List Tri) (l : List Int) (lk : Int → List Int) (i from_ own q : Int) (st : GS) : GS :=
  let p := (lk q).foldl (gO vis ts l i q from_ own) (0, { st with out := addO st.out q own })
  { p.2 with good := p.2.good && decide (p.1 < 3) }
def ownAt (sign : Int) (k : Nat) : Int := if k = 2 then -sign else sign
def cAt (t : Tri) (k : Nat) : Int := (cor t).getD k 0
def vg (ts : List Tri) (l : List Int) (lk : Int → List Int) : Nat → Int → Int → Int → GS → GS
  | 0, _, _, _, st => st
  | f + 1, i, sign, from_, st => (List.range 3).foldl (fun st k => gC (vg ts l lk f) ts l lk i from_ (ownAt sign k) (cAt (tri ts i.toNat) k) st) { st with left := st.left - 1 }

/-! ### lengths, and what is left -/
theorem addO_len (out : List Int) (q own : Int) : (addO out q own).length = out.length := by simp [addO]
def Mn (N : Nat) (a b : GS) : Prop := b.left ≤ a.left ∧ (a.out.length = N → b.out.length = N) ∧ (0 ≤ a.left → 0 ≤ b.left)
theorem Mn.refl (N : Nat) (a : GS) : Mn N a a := ⟨Int.le_refl _, id, id⟩
theorem Mn.trans {N : Nat} {a b c : GS} (h : Mn N a b) (k : Mn N b c) : Mn N a c := ⟨Int.le_trans k.1 h.1, fun x => k.2.1 (h.2.1 x), fun x => k.2.2 (h.2.2 x)⟩
theorem gO_mn {N : Nat} {vis : Int → Int → Int → GS → GS} (hv : ∀ o s q st, 0 < st.left → Mn N st (vis o s q st)) (ts : List Tri) (l : List Int) (i q from_ own : Int) (p : Int × GS) (o : Int) : Mn N p.2 (gO vis ts l i q from_ own p o).2 := by
  unfold gO
  split
  · exact .refl _ _
  · split
    · exact .refl _ _
    · dsimp only
      split
      · rename_i h; exact hv _ _ _ _ h
      · exact .refl _ _
theorem gOs_mn {N : Nat} {vis : Int → Int → Int → GS → GS} (hv : ∀ o s q st, 0 < st.left → Mn N st (vis o s q st)) (ts : List Tri) (l : List Int) (i q from_ own : Int) : ∀ (xs : List Int) (p : Int × GS), Mn N p.2 (xs.foldl (gO vis ts l i q from_ own) p).2
  | [], p => .refl _ _
  | x :: xs, p => (gO_mn hv ts l i q from_ own p x).trans (gOs_mn hv ts l i q from_ own xs _)
theorem gC_mn {N : Nat} {vis : Int → Int → Int → GS → GS} (hv : ∀ o s q st, 0 < st.left → Mn N st (vis o s q st)) (ts : List Tri) (l : List Int) (lk : Int → List Int) (i from_ own q : Int) (st : GS) : Mn N st (gC vis ts l lk i from_ own q st) := by
  have h := gOs_mn hv ts l i q from_ own (lk q) (0, { st with out := addO st.out q own })
  exact ⟨h.1, fun x => h.2.1 (by simpa [addO] using x), h.2.2⟩
theorem gCs_mn {N : Nat} {vis : Int → Int → Int → GS → GS} (hv : ∀ o s q st, 0 < st.left → Mn N st (vis o s q st)) (ts : List Tri) (l : List Int) (lk : Int → List Int) (i from_ : Int) (g h : Nat → Int) : ∀ (xs : List Nat) (st : GS), Mn N st (xs.foldl (fun st k => gC vis ts l lk i from_ (g k) (h k) st) st)
  | [], st => .refl _ _
  | x :: xs, st => (gC_mn hv ts l lk i from_ _ _ st).trans (gCs_mn hv ts l lk i from_ g h xs _)
theorem vg_mn (N : Nat) (ts : List Tri) (l : List Int) (lk : Int → List Int) : ∀ (f : Nat) (i sign from_ : Int) (st : GS), 0 < st.left → Mn N st (vg ts l lk f i sign from_ st)
  | 0, i, sign, from_, st, _ => .refl _ _
  | f + 1, i, sign, from_, st, h => by
    have h1 : Mn N st { st with left := st.left - 1 } := ⟨by show st.left - 1 ≤ st.left; omega, id, fun _ => by show 0 ≤ st.left - 1; omega⟩
    exact h1.trans (gCs_mn (fun o s q st' h' => vg_mn N ts l lk f o s q st' h') ts l lk i from_ _ _ _ _)

theorem ints_set (xs : List Int) (q : Nat) (v : Int) : (ints xs).toArray.setIfInBounds q (.int .i64 v) = (ints (xs.set q v)).toArray := by
  apply Array.ext'
  simp [ints, List.map_set]

/-! ### the frame of visit, in memory -/
def visF (s bN bl : Nat) : Value := .func (.func 70) #[] #[.pointer (some ⟨s + 3, 0, none⟩), .pointer (some ⟨bN, 0, none⟩), .pointer (some ⟨s + 2, 0, none⟩), .pointer (some ⟨s, 0, none⟩), .pointer (some ⟨bl, 0, none⟩), .pointer (some ⟨s + 5, 0, none⟩), .pointer (some ⟨s + 4, 0, none⟩)]

/-- What stays while visit runs: made in the world W0, of s blocks. -/
structure GFix (W0 : World) (s MB N : Nat) (bN bl : Nat) (W : World) : Prop where
  hs : W0.heap.size = s
  be : Below s W0 W
  k6 : Blk W s #[.map (some MB)] 114
  k7 : Blk W (s + 2) #[.slice (some ⟨s + 1, 0, none⟩) N N] 38
  k10 : Blk W (s + 5) #[visF s bN bl] 116
structure GSt (s : Nat) (st : GS) (W : World) : Prop where
  left : Blk W (s + 3) #[.int .i64 st.left] 3
  good : Blk W (s + 4) #[.bool st.good] 4
  out : Blk W (s + 1) (ints st.out).toArray 3
theorem GFix.kept {W0 : World} {s MB N bN bl : Nat} {W W' : World} (h : GFix W0 s MB N bN bl W) (hb : Below W.heap.size W W') : GFix W0 s MB N bN bl W' :=
  ⟨h.hs, h.be.trans (hb.mono (by have := h.k6.lt; omega)), h.k6.kept hb, h.k7.kept hb, h.k10.kept hb⟩
theorem GSt.kept {s : Nat} {st : GS} {W W' : World} (h : GSt s st W) (hb : Below W.heap.size W W') : GSt s st W' := ⟨h.left.kept hb, h.good.kept hb, h.out.kept hb⟩
theorem GFix.set {W0 : World} {s MB N bN bl : Nat} {W : World} (h : GFix W0 s MB N bN bl W) {b : Nat} (hb : b = s + 1 ∨ b = s + 3 ∨ b = s + 4) (i : Nat) (v : Value) : GFix W0 s MB N bN bl (W.setCell ⟨b, i, none⟩ v) :=
  ⟨h.hs, h.be.setCell (p := ⟨b, i, none⟩) (show s ≤ b by omega) v, h.k6.other (p := ⟨b, i, none⟩) (show s ≠ b by omega) v, h.k7.other (p := ⟨b, i, none⟩) (show s + 2 ≠ b by omega) v, h.k10.other (p := ⟨b, i, none⟩) (show s + 5 ≠ b by omega) v⟩
theorem GSt.setLeft {s : Nat} {st : GS} {W : World} (h : GSt s st W) (x : Int) : GSt s { st with left := x } (W.setCell ⟨s + 3, 0, none⟩ (.int .i64 x)) :=
  ⟨h.left.set 0 _, h.good.other (p := ⟨s + 3, 0, none⟩) (show s + 4 ≠ s + 3 by omega) _, h.out.other (p := ⟨s + 3, 0, none⟩) (show s + 1 ≠ s + 3 by omega) _⟩
theorem GSt.setGood {s : Nat} {st : GS} {W : World} (h : GSt s st W) (x : Bool) : GSt s { st with good := x } (W.setCell ⟨s + 4, 0, none⟩ (.bool x)) :=
  ⟨h.left.other (p := ⟨s + 4, 0, none⟩) (show s + 3 ≠ s + 4 by omega) _, h.good.set 0 _, h.out.other (p := ⟨s + 4, 0, none⟩) (show s + 1 ≠ s + 4 by omega) _⟩
theorem GSt.setOut {s : Nat} {st : GS} {W : World} (h : GSt s st W) (q : Nat) (x : Int) : GSt s { st with out := st.out.set q x } (W.setCell ⟨s + 1, q, none⟩ (.int .i64 x)) :=
  ⟨h.left.other (p := ⟨s + 1, q, none⟩) (show s + 3 ≠ s + 1 by omega) _, h.good.other (p := ⟨s + 1, q, none⟩) (show s + 4 ≠ s + 1 by omega) _, by have := h.out.set q (.int .i64 x); rw [ints_set] at this; exact this⟩
theorem GSt.cell {s : Nat} {st : GS} {W : World} (h : GSt s st W) {q : Nat} (hq : q < st.out.length) : W.cell? ⟨s + 1, q, none⟩ = some (.int .i64 (st.out.getD q 0)) ∧ W.frozen? ⟨s + 1, q, none⟩ = false := by
  refine ⟨?_, h.out.frozen q⟩
  rw [h.out.cell q]
  simp [ints, List.getD, hq]

/-- What is fixed below s: the net, the group, the links. -/
structure GIn (W0 : World) (s MB base N : Nat) (bN bl : Nat) (ts : List Tri) (l : List Int) (lk : Int → List Int) (sa ta la : Option Addr) (sc tn tc ln lc : Nat) : Prop where
  net : Blk W0 bN #[.slice sa N sc, .slice ta tn tc] 25
  lb : Blk W0 bl #[.slice la ln lc] 38
  rt : Row W0 s ta (tris ts)
  rl : Row W0 s la (ints l)
  grp : GrpAt W0 MB base 15 lk
  htn : tn = ts.length
  htc : tn ≤ tc
  ht5 : tn ≤ 5
  hln : ln = l.length
  hl5 : ln ≤ 1000
  hN : N ≤ 11
  hlk : ∀ q x, x ∈ lk q → 0 ≤ x ∧ x < tn
  hin : ∀ t ∈ ts, ∀ o ∈ cor t, 0 ≤ o ∧ o < N

def VgSpec (f : Nat) (W0 : World) (s MB N bN bl : Nat) (ts : List Tri) (l : List Int) (lk : Int → List Int) (tn : Nat) : Prop :=
  ∀ (i sign from_ : Int) (st : GS) (W : World), 0 ≤ i → i < tn → -1 ≤ sign → sign ≤ 1 → 1 ≤ st.left → st.left ≤ f → st.left ≤ 1000 → st.out.length = N → GFix W0 s MB N bN bl W → GSt s st W →
    Calls Try.prog 70 #[.int .i64 i, .int .i64 sign, .int .i64 from_, .pointer (some ⟨s + 3, 0, none⟩), .pointer (some ⟨bN, 0, none⟩), .pointer (some ⟨s + 2, 0, none⟩), .pointer (some ⟨s, 0, none⟩), .pointer (some ⟨bl, 0, none⟩), .pointer (some ⟨s + 5, 0, none⟩), .pointer (some ⟨s + 4, 0, none⟩)] W fun e W' =>
      e = .returned (.tuple #[]) ∧ GFix W0 s MB N bN bl W' ∧ GSt s (vg ts l lk f i sign from_ st) W'

end Go.Proofs.Ytlbhnicengolfaa

/-! ## GrpL: A look-up in a map of slices, behind changes of newer blocks. -/
namespace Go.Proofs.Ytlbhnicengolfaa
open Go.RowKit
open Go.ChangeShapes (lits)
set_option linter.unusedVariables false
set_option linter.unusedSimpArgs false

theorem GrpAt.look_in {W0 W : World} {s b base n : Nat} {f : Int → List Int} (h : GrpAt W0 b base n f) (hs : W0.heap.size = s) (hb : Below s W0 W) (hn : n ≤ 1000) {x : Int} (h0 : 0 ≤ x) (h1 : x ≤ 1000000) :
    ∃ (va : Option Addr) (vcap : Nat), (Instr.lookup 114 (.map (some b)) (.int .i64 x) false).run Try.prog W = .ok (.slice va (f x).length vcap) W ∧ (f x).length ≤ n ∧ (f x).length ≤ vcap ∧ vcap ≤ 9223372036854775807 ∧ Row W0 s va (ints (f x)) := by
  have hbl := h.lt
  obtain ⟨D0, ho0, hi0, ha0⟩ := h
  have hsh0 : W.Shuns b (fun g => s ≤ g) := ((World.Shuns.reno (No := fun _ => False) (fun _ _ _ _ _ _ _ h => h) ho0 (No' := fun g => s ≤ g) (fun g hg => .inr (by omega)))).kept (row := none) (grownBy_below (hs ▸ hb) none) hbl (by simp)
  obtain ⟨D, ho, hi, ha⟩ := GrpAt.below ⟨D0, ho0, hi0, ha0⟩ (hs ▸ hb)
  obtain ⟨v, zs, hrun, hat, hoi, hzl, hback⟩ := ho.at (t := 114) (E := 38) (Maps.int_keyed Try.underlying3) Try.underlying114 (by kernel_rfl) (by unfold maxLen; omega) (key64 h0 h1)
  rw [ha x] at hat
  have e : zs = f x := by
    rcases hoi.datum (H := Unit) with ⟨hd, hz⟩ | hd
    · rw [hd] at hat
      unfold encL at hat
      split at hat
      · rename_i h; rw [hz, h]
      · cases hat
    · rw [hd] at hat
      unfold encL at hat
      split at hat
      · cases hat
      · have h1 := congrArg (fun d : DataW Unit => match d with | .slice xs _ => xs | _ => []) hat
        exact (lits_inj h1).symm
  subst e
  have hg : ∀ g, v.ownBlock = some g → g < s := by
    obtain ⟨es, clock, hbk, F, _⟩ := ho
    rcases Maps.fit_look false (Maps.int_keyed Try.underlying3) Try.underlying114 (w := W) (z := .slice none 0 0) (by kernel_rfl) hbk F (key64 h0 h1) with ⟨hrun', _, _⟩ | ⟨e0, y, hm0, _, hrun', _, _, _⟩
    · rw [hrun] at hrun'
      obtain rfl : v = .slice none 0 0 := by simpa using hrun'
      intro g hg'
      cases hg'
    · rw [hrun] at hrun'
      obtain rfl : v = e0.val := by simpa using hrun'
      exact fun g hg' => Nat.lt_of_not_le (hsh0 es clock hbk e0 hm0 g hg')
  obtain ⟨va, vcap, rfl, hvc, hvm⟩ := own_shape hoi.1
  refine ⟨va, vcap, hrun, hzl, hvc, by unfold maxLen at hvm; exact hvm, ?_⟩
  rcases hoi.1.2 with ⟨hv, h00⟩ | ⟨g, cp, cur, hv, _, hc, _, _, _, ht⟩
  · exact .inl (by rw [List.eq_nil_of_length_eq_zero h00]; rfl)
  · injection hv with hv1
    subst hv1
    have hgs := hg g rfl
    have hr := row_of_heap hc (vs := ints (f x)) (by rw [ints_length]; simpa [ints] using ht)
    exact (hr.mono (by omega : g + 1 ≤ s)).at fun k hk => by
      obtain ⟨_, ad, e, rfl⟩ := hk
      cases e
      exact (hb.block g hgs).symm

end Go.Proofs.Ytlbhnicengolfaa
