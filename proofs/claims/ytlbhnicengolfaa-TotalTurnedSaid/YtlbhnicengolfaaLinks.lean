/-
  Package total: links.
-/
import Derived.Test.YtlbhnicengolfaaGrp
import Derived.Maps.GroupsBeside
namespace Go.Proofs.Ytlbhnicengolfaa
open Go.RowKit
set_option linter.unusedVariables false
set_option linter.unusedSimpArgs false

def linkS (f : Int → List Int) (q i : Int) : Int → List Int := fun y => if y = q then f q ++ [i] else f y
def linkT (f : Int → List Int) (t : Tri) (i : Int) : Int → List Int := (cor t).foldl (fun f q => linkS f q i) f
/-- The triangles that each quantity belongs to, of the first k. -/
def linkM (ts : List Tri) : Nat → Int → List Int
  | 0 => fun _ => []
  | k + 1 => linkT (linkM ts k) (tri ts k) (k : Int)

theorem GrpAt.below {w w' : World} {b base n : Nat} {f : Int → List Int} (h : GrpAt w b base n f) (hb : Below w.heap.size w w') : GrpAt w' b base n f := by
  obtain ⟨D, ho, hi, ha⟩ := h
  exact ⟨D, ho.kept (row := none) (grownBy_below hb none) (by simp) (fun es c _ x _ => by cases h : x.val.ownBlock <;> simp), hi, ha⟩

set_option maxRecDepth 100000 in
set_option maxHeartbeats 4000000 in
theorem links_any (n : TNet) (sa ta : Option Addr) (sn sc tn tc : Nat) (w : World) (h : NetIn n sa ta sn tn tc w) (hn : NOk n) :
    Calls Try.prog 69 #[netV sa ta sn sc tn tc] w fun e w' =>
      e = .returned (.map (some (w.heap.size + 1))) ∧ GrpAt w' (w.heap.size + 1) (w.heap.size + 1 + 1) 15 (linkM n.ts tn) ∧ Below w.heap.size w w' := by
  have H := hide h
  have HIN := hide (nok_in hn)
  have ht5 : tn ≤ 5 := by have := h.htn; have := hn.l3; omega
  have hs11 : n.sp.length ≤ 11 := hn.l2
  have hmm := @run_makeMap Try.prog
  obtain ⟨i0, hi, hz0, hz1, hz2⟩ := info_int
  have HI := hide hi
  have kn := (Blk.new w #[.slice sa sn sc, .slice ta tn tc] 25).alloc (.map #[] 0)
  have hg0 : GrpAt ((w.alloc (.cells #[.slice sa sn sc, .slice ta tn tc] 25)).alloc (.map #[] 0)) (w.heap.size + 1) (w.heap.size + 1 + 1) 0 (linkM n.ts 0) := GrpAt.made (by simp)
  have hb0 : Below w.heap.size w ((w.alloc (.cells #[.slice sa sn sc, .slice ta tn tc] 25)).alloc (.map #[] 0)) := ((Below.refl _ _).alloc (Nat.le_refl _) _).alloc (by simp) _
  clear h hn hi
  go_enter Try.func69, Try.ntmps69
  go_wp2_with fail
  go_loopw [12] (fun i wr => ∃ k : Nat, k ≤ tn ∧ i = .int .i64 (k : Int) ∧ GrpAt wr (w.heap.size + 1) (w.heap.size + 1 + 1) (3 * k) (linkM n.ts k) ∧ Below w.heap.size w wr) (fun i _ => tn - (intOf i).toNat)
  case atStart => exact ⟨0, Nat.zero_le _, rfl, hg0, hb0⟩
  case round =>
    clear hg0 hb0 kn hmm
    obtain ⟨k, hk, rfl, hg, hB⟩ := hrel
    have hsz := hg.lt
    by_cases hlt : k < tn
    · have hkl : k < n.ts.length := by have := H.out.htn; omega
      obtain ⟨tb, toff, hta, htb, hcell⟩ := (H.out.below hB).rt.tri (by omega)
      obtain ⟨t0, t1, t2⟩ := hcell k hkl
      have hin := HIN.out (tri n.ts k) (by rw [tri_eq hkl]; exact List.getElem_mem hkl)
      have HLT : Hid (linkM n.ts (k + 1) = linkT (linkM n.ts k) (tri n.ts k) (k : Int)) := hide rfl
      clear hcell hkl
      subst hta
      generalize tri n.ts k = t at *
      obtain ⟨a, b, c⟩ := t
      dsimp only at t0 t1 t2
      have HIN3 : Hid ((0 ≤ a ∧ a ≤ 100) ∧ (0 ≤ b ∧ b ≤ 100) ∧ (0 ≤ c ∧ c ≤ 100)) := hide (by
        have h1 := hin a (by simp [cor]); have h2 := hin b (by simp [cor]); have h3 := hin c (by simp [cor])
        omega)
      have htc := H.out.htc
      go_wp2_with fail
      refine (corners_any a b c _).mono ?_
      rintro e W3 ⟨rfl, hb3⟩
      have hb3' : Below wr.heap.size wr W3 := ((Below.refl _ _).alloc (Nat.le_refl _) _).trans (hb3.mono (by simp))
      have hB3 := hB.trans (hb3'.mono (by omega))
      have hg3 : GrpAt W3 (w.heap.size + 1) (w.heap.size + 1 + 1) (3 * k) (linkM n.ts k) := hg.below hb3'
      clear hb3 hb3' hg hB t0 t1 t2
      generalize linkM n.ts k = F0 at *
      go_wp2_with fail
      go_loopw [19] (fun i wr => ∃ j : Nat, j ≤ 3 ∧ i = .int .i64 (j : Int) ∧ GrpAt wr (w.heap.size + 1) (w.heap.size + 1 + 1) (3 * k + j) ((([a, b, c] : List Int).take j).foldl (fun f q => linkS f q (k : Int)) F0) ∧ Below w.heap.size w wr) (fun i _ => 3 - (intOf i).toNat)
      case atStart => exact ⟨0, by omega, rfl, hg3, hB3⟩
      case round =>
        clear hg3 hB3
        obtain ⟨j, hj, rfl, hg, hB⟩ := hrel
        by_cases hj3 : j < 3
        · obtain ⟨o, ho1, ho2⟩ : ∃ o, ([a, b, c] : List Int)[j]? = some o ∧ 0 ≤ o ∧ o ≤ 100 := by
            have : j = 0 ∨ j = 1 ∨ j = 2 := by omega
            rcases this with rfl | rfl | rfl
            · exact ⟨a, rfl, HIN3.out.1⟩
            · exact ⟨b, rfl, HIN3.out.2.1⟩
            · exact ⟨c, rfl, HIN3.out.2.2⟩
          have HNJ : Hid ((([a, b, c] : List Int).take (j + 1)).foldl (fun f q => linkS f q (k : Int)) F0 = linkS ((([a, b, c] : List Int).take j).foldl (fun f q => linkS f q (k : Int)) F0) o (k : Int)) := hide (by
            rw [List.take_add_one, ho1, List.foldl_append]; rfl)
          have hix : ∀ w, (Instr.index 108 (.agg #[.int .i64 a, .int .i64 b, .int .i64 c]) (.int .i64 (j : Int))).run Try.prog w = .ok (.int .i64 o) w := by
            have : j = 0 ∨ j = 1 ∨ j = 2 := by omega
            rcases this with rfl | rfl | rfl
            all_goals (simp at ho1; subst ho1; intro w; kernel_rfl)
          generalize (([a, b, c] : List Int).take j).foldl (fun f q => linkS f q (k : Int)) F0 = F at *
          obtain ⟨D, v, hr, hoi, hzl, hback, hi, ha⟩ := hg.look (by omega) ho2.1 (by omega)
          have HOI := hide hoi
          have HBK := hide hback
          have HA := hide ha
          have HIM := hide hi
          have hsz := hg.lt
          have HWF : Hid ((Lit.int .i64 (k : Int)).wf = true) := hide (by simp [Lit.wf, IntKind.min, IntKind.max, IntKind.signed, IntKind.bits]; omega)
          have HLE : Hid ((F o ++ [(k : Int)]).length ≤ 3 * k + j + 1) := hide (by rw [List.length_append]; simp only [List.length_singleton]; omega)
          clear ho1 hoi hback ha hi hg
          go_wp2_with (first
            | (at_builtin
               refine wpList_append_own_at _ rfl (.tmp 26) (.tmp 28) 38 rfl (w.heap.size + 1 + 1) 3 i0 (.int .i64 0) 1 8 under_ints HI.out hz0 hz1 hz2 rfl (by decide) _ (F o).length (ints (F o)) rfl (HOI.out.1.alloc _) ⟨wr.heap.size, 0, none⟩ 1 1 [.int .i64 (k : Int)] rfl rfl
                 (World.news_of_block (cs := #[.int .i64 (k : Int)]) (t := 3) (fr := (0, 0)) (Blk.newAt rfl _ _)) (by intro u hu; simp at hu; subst hu; rfl) (by unfold maxLen; omega) (by omega) (by simp; omega) ?_
               intro v' W4 ow4 gr4 nil4 at4
               have OI4 := hide ((HOI.out.alloc (.cells #[.int .i64 (k : Int)] 3)).appended ow4 HWF.out)
               have GR4 := hide (grownBy_trans (World.grownBy_alloc wr (.cells #[.int .i64 (k : Int)] 3) _) gr4)
               have LO4 : Hid (v'.ownBlock = v.ownBlock ∨ ∃ g, v'.ownBlock = some g ∧ wr.heap.size ≤ g) := hide (at4.imp id (fun e => ⟨_, e, by simp⟩))
               clear ow4 gr4 nil4 at4)
            | (at_mapUpdate
               refine wpList_mapUpdate_back _ rfl _ _ _ 114 rfl HBK.out rfl rfl rfl GR4.out OI4.out HLE.out LO4.out ?_
               intro W5 ow5 gr5))
          have hB5 : Below w.heap.size w W5 := by
            have h4 : Below w.heap.size w W4 := ⟨GR4.out.os.trans hB.os, GR4.out.tape.trans hB.tape, GR4.out.output.trans hB.output, Nat.le_trans hB.size GR4.out.size, fun i hi => (GR4.out.block i (by have := hB.size; omega) (fun e => by have := (HOI.out.1.lt i e.symm).1; omega)).trans (hB.block i hi)⟩
            exact ⟨gr5.os.trans h4.os, gr5.tape.trans h4.tape, gr5.output.trans h4.output, Nat.le_trans h4.size gr5.size, fun i hi => (gr5.block i (by have := h4.size; omega) (fun e => by injection e; omega)).trans (h4.block i hi)⟩
          have hg5 := GrpAt.put HIM.out HA.out OI4.out (by simp) ow5
          clear gr5 ow5
          go_roundw
          case rel => exact ⟨j + 1, by omega, by go_num, by rw [HNJ.out]; exact hg5, hB5⟩
          case measure => simp [intOf]; omega
        · have HF : Hid (linkM n.ts (k + 1) = (([a, b, c] : List Int).take j).foldl (fun f q => linkS f q (k : Int)) F0) := hide (by rw [HLT.out, List.take_of_length_le (show ([a, b, c] : List Int).length ≤ j by show 3 ≤ j; omega)]; rfl)
          have hj3' : 3 * k + j = 3 * (k + 1) := by omega
          rw [hj3'] at hg
          clear hj3'
          go_wp2_with fail
          go_roundw
          case rel => exact ⟨k + 1, by omega, by go_num, by rw [HF.out]; exact hg, hB⟩
          case measure => simp [intOf]; omega
    · have hkn : k = tn := by omega
      have hg' : GrpAt wr (w.heap.size + 1) (w.heap.size + 1 + 1) 15 (linkM n.ts tn) := by
        rw [hkn] at hg
        obtain ⟨D, ⟨es, c, h1, h2, h3, h4, h5, h6, h7⟩, hi, ha⟩ := hg
        exact ⟨D, ⟨es, c, h1, h2, by omega, h4, h5, fun x hx zs hz => by have := h6 x hx zs hz; omega, h7⟩, hi, ha⟩
      clear hkn hg
      go_wp2_with fail
      go_ret
      exact ⟨rfl, hg', hB⟩

end Go.Proofs.Ytlbhnicengolfaa
