/-
  TotalEither: what is known while all truths are tried; the closure that is called with each of them.
-/
import Derived.Test.YtlbhnicengolfaaEithM
import Derived.Test.YtlbhnicengolfaaMade
import Derived.StillTailTactics
namespace Go.Proofs.Ytlbhnicengolfaa
open Go.RowKit
set_option linter.unusedVariables false
set_option linter.unusedSimpArgs false

/-- What lies in memory while truths are tried: squares at s + 2, the spans that are wanted in the box wb; W0 is where the search began. -/
structure EIn (W0 : World) (wb s : Nat) (xs : List Int) (L : List Sp) (v : Value) (W : World) : Prop where
  rn : Rnd (fun k => k = wb ∨ k = s + 2) W0 W
  kx : Blk W (s + 2) (ints xs).toArray 3
  kw : Blk W wb #[v] 22
  ow : W.ownsRow W0.heap.size 53 2 v L.length (spans L)
  nil : L = [] → v = .slice none 0 0
  hs : s + 5 ≤ W0.heap.size
  hw : wb < s
section
variable {W0 : World} {wb s : Nat} {xs : List Int} {L : List Sp} {v : Value} {W : World}
theorem EIn.kept (h : EIn W0 wb s xs L v W) {W' : World} (hb : Below W.heap.size W W') : EIn W0 wb s xs L v W' :=
  ⟨h.rn.trans ((Rnd.of_below hb).mono fun k _ hk => hk), h.kx.kept hb, h.kw.kept hb, own_kept h.ow hb, h.nil, h.hs, h.hw⟩
theorem EIn.own_ne (h : EIn W0 wb s xs L v W) {k : Nat} (hk : k < W0.heap.size) : ∀ j, v.ownBlock = some j → j ≠ k := fun j e => by
  have := (h.ow.lt j e).1
  omega
theorem EIn.app (h : EIn W0 wb s xs L v W) {W6 : World} {v' : Value} {L' : List Sp} (gr : W.grownBy W6 v.ownBlock) (ow6 : W6.ownsRow W0.heap.size 53 2 v' L'.length (spans L')) (hn : L' = [] → v' = .slice none 0 0) :
    EIn W0 wb s xs L' v' (W6.setCell ⟨wb, 0, none⟩ v') := by
  have hs := h.hs
  have hw := h.hw
  have hsz := h.rn.size
  have kx6 : Blk W6 (s + 2) (ints xs).toArray 3 := blk_grown h.kx gr (h.own_ne (by omega))
  have kw6 : Blk W6 wb #[v] 22 := blk_grown h.kw gr (h.own_ne (by omega))
  have rn6 : Rnd (fun k => k = wb ∨ k = s + 2) W0 W6 := ⟨gr.os.trans h.rn.os, gr.tape.trans h.rn.tape, gr.output.trans h.rn.output, Nat.le_trans h.rn.size gr.size, fun k hk hd => (gr.block k (by omega) (fun e => h.own_ne hk _ e.symm rfl)).trans (h.rn.block k hk hd)⟩
  exact ⟨rn6.setCell (p := ⟨wb, 0, none⟩) (.inl (.inl rfl)) _, kx6.other (p := ⟨wb, 0, none⟩) (show s + 2 ≠ wb by omega) _, kw6.set 0 v', ownsRow_setCell_below ow6 (a := ⟨wb, 0, none⟩) (show wb < W0.heap.size by omega) _, hn, h.hs, h.hw⟩
theorem EIn.setX (h : EIn W0 wb s xs L v W) (q : Nat) (y : Int) : EIn W0 wb s (xs.set q y) L v (W.setCell ⟨s + 2, q, none⟩ (.int .i64 y)) := by
  have hs := h.hs
  have hw := h.hw
  exact ⟨h.rn.setCell (p := ⟨s + 2, q, none⟩) (.inl (.inr rfl)) _, by have := h.kx.set q (.int .i64 y); rw [ints_set] at this; exact this, h.kw.other (p := ⟨s + 2, q, none⟩) (show wb ≠ s + 2 by omega) _, ownsRow_setCell_below h.ow (a := ⟨s + 2, q, none⟩) (show s + 2 < W0.heap.size by omega) _, h.nil, h.hs, h.hw⟩
theorem EIn.setS {g N cap : Nat} (h : EIn W0 wb s xs L (.slice (some ⟨g, 0, none⟩) N cap) W) (hN : N = L.length) (q : Nat) (x y : Int) (hq : q < N) :
    EIn W0 wb s xs (L.set q (x, y)) (.slice (some ⟨g, 0, none⟩) N cap) ((W.setCell ⟨g, q * 2, none⟩ (.int .i64 x)).setCell ⟨g, q * 2 + 1, none⟩ (.int .i64 y)) := by
  have hs := h.hs
  have hw := h.hw
  have hg := (h.ow.lt g rfl).1
  have ow := h.ow
  rw [← hN] at ow
  have o2 := own2_set ow q x y
  refine ⟨(h.rn.setCell (p := ⟨g, q * 2, none⟩) (.inr hg) _).setCell (p := ⟨g, q * 2 + 1, none⟩) (.inr hg) _, (h.kx.other (p := ⟨g, q * 2, none⟩) (show s + 2 ≠ g by omega) _).other (p := ⟨g, q * 2 + 1, none⟩) (show s + 2 ≠ g by omega) _,
    (h.kw.other (p := ⟨g, q * 2, none⟩) (show wb ≠ g by omega) _).other (p := ⟨g, q * 2 + 1, none⟩) (show wb ≠ g by omega) _, by rw [List.length_set, ← hN]; exact o2, fun e => ?_, h.hs, h.hw⟩
  have := congrArg List.length e
  rw [List.length_set] at this
  simp only [List.length_nil] at this
  omega
theorem EIn.someV (h : EIn W0 wb s xs L v W) (hL : L ≠ []) : ∃ g cap, v = .slice (some ⟨g, 0, none⟩) L.length cap := by
  rcases h.ow.2 with ⟨rfl, h0⟩ | ⟨g, cap, cur, rfl, _⟩
  · exact absurd (List.eq_nil_of_length_eq_zero h0) hL
  · exact ⟨g, cap, rfl⟩
theorem EIn.x (h : EIn W0 wb s xs L v W) {q : Nat} (hq : q < xs.length) : W.cell? ⟨s + 2, q, none⟩ = some (.int .i64 (xs.getD q 0)) ∧ W.frozen? ⟨s + 2, q, none⟩ = false := by
  refine ⟨?_, h.kx.frozen q⟩
  rw [h.kx.cell q]
  simp [ints, List.getD, hq]
end
theorem dupL_snoc {xs : List Int} {j : Nat} (h : j < xs.length) : dupL (xs.take (j + 1)) = dupL (xs.take j) ++ [(xs.getD j 0, xs.getD j 0)] := by
  unfold dupL
  rw [List.take_succ_eq_append_getElem h, List.map_append]
  simp [List.getD, h]
theorem spans_appendE : ∀ a b : List Sp, spans (a ++ b) = spans a ++ spans b
  | [], _ => rfl
  | p :: a, b => by simp [spans, spans_appendE a b]

theorem eql_nil (W : World) : (binOp .eql 22 (.slice none 0 0) (.slice none 0 0)).run Try.prog W = .ok (.bool true) W := by kernel_rfl
theorem eql_some (g N cap : Nat) (W : World) : (binOp .eql 22 (.slice (some ⟨g, 0, none⟩) N cap) (.slice none 0 0)).run Try.prog W = .ok (.bool false) W := by kernel_rfl

attribute [local go_sem high] minI maxI in
set_option maxRecDepth 100000 in
set_option maxHeartbeats 8000000 in
theorem use_any (W0 : World) (wb s N : Nat) (xs : List Int) (L : List Sp) (v : Value) (W : World) (h : EIn W0 wb s xs L v W) (hx : xs.length = N) (h1 : 1 ≤ N) (h11 : N ≤ 11) (hL : L = [] ∨ L.length = N) :
    Calls Try.prog 40 #[.slice (some ⟨s + 2, 0, none⟩) N N, .pointer (some ⟨wb, 0, none⟩)] W fun e W' => e = .returned (.tuple #[]) ∧ ∃ v', EIn W0 wb s xs (useM xs L) v' W' := by
  have HX := hide hx
  have H := hide h
  have HU : Hid (useM xs L = useK xs (if L = [] then dupL xs else L) xs.length) := hide rfl
  obtain ⟨i0, hi, hz0, hz1, hz2⟩ := info_asp
  have HI := hide hi
  clear hi hx
  have hs0 := h.hs
  have hw0 := h.hw
  rcases hL with hL0 | hL0
  · have hv := h.nil hL0
    subst hL0
    subst hv
    rw [if_pos rfl] at HU
    obtain ⟨b0, bf⟩ := h.kw.one
    have bl := h.kw.lt
    have hEq := eql_nil
    clear h
    go_enter Try.func40, Try.ntmps40
    go_wp2_with fail
    clear b0 bf bl hEq
    go_loopw [11] (fun ix wr => ∃ (j : Nat) (v' : Value), j ≤ N ∧ ix = .int .i64 (j : Int) ∧ EIn W0 wb s xs (dupL (xs.take j)) v' wr) (fun ix _ => N - (intOf ix).toNat)
    case atStart => exact ⟨0, _, Nat.zero_le _, rfl, H.out⟩
    case round =>
      clear H
      obtain ⟨j, v', hj, rfl, he⟩ := hrel
      by_cases hlt : j < N
      · have hrs := he.rn.size
        obtain ⟨x0, xf⟩ := he.x (q := j) (by rw [HX.out]; exact hlt)
        obtain ⟨b0, bf⟩ := he.kw.one
        have bl := he.kw.lt
        have xl := he.kx.lt
        have HD := hide (dupL_snoc (xs := xs) (j := j) (by rw [HX.out]; exact hlt))
        have HLN : Hid ((dupL (xs.take j)).length = j) := hide (by simp [dupL, HX.out]; omega)
        have hoj := he.ow
        rw [HLN.out] at hoj
        have HOJ := hide hoj
        have HE2 := hide he
        clear he hoj
        generalize xs.getD j 0 = y at *
        have ij : (j : Int) < N := by omega
        go_wp2_with (
          at_builtin
          refine wpList_append_lies _ rfl (.tmp 15) (.tmp 19) 22 rfl W0.heap.size 53 i0 (.agg #[.int .i64 0, .int .i64 0]) 2 16 under_asps HI.out hz0 hz1 hz2 rfl (by decide) _ j (spans (dupL (xs.take j))) rfl (HOJ.out.alloc _) ⟨wr.heap.size, 0, none⟩ 1 1 [.int .i64 y, .int .i64 y] rfl rfl
            (World.news_of_block (cs := #[.int .i64 y, .int .i64 y]) (t := 53) (fr := (0, 0)) (Blk.newAt rfl _ _)) (by intro u hu; simp at hu; subst hu; rfl) (by decide) (by unfold maxLen; omega) (by omega) (by simp; omega) _ rfl ?_
          intro g2 cap2 W6 ow6 gr6 at6 lt6
          have gr7 : World.grownBy (wr.alloc (.cells #[.int .i64 y, .int .i64 y] 53)) W6 v'.ownBlock := gr6
          have HE3 := hide ((HE2.out.kept ((Below.refl _ _).alloc (Nat.le_refl _) (.cells #[.int .i64 y, .int .i64 y] 53))).app (L' := dupL (xs.take (j + 1))) gr7 (by rw [HD.out, List.length_append, HLN.out, spans_appendE]; exact ow6) (fun e => by rw [HD.out] at e; simp at e))
          have kw6 := blk_grown (HE2.out.kw.alloc (.cells #[.int .i64 y, .int .i64 y] 53)) gr7 ((HE2.out.kept ((Below.refl _ _).alloc (Nat.le_refl _) (.cells #[.int .i64 y, .int .i64 y] 53))).own_ne (by omega))
          obtain ⟨m0, mf⟩ := kw6.one
          have ml := kw6.lt
          clear gr6 gr7 at6 kw6 ow6 b0 bf bl)
        exact ⟨⟨j + 1, _, by omega, by go_num, HE3.out⟩, by simp [intOf]; omega⟩
      · have hjN : j = N := by omega
        have HE : Hid (EIn W0 wb s xs (dupL xs) v' wr) := hide (by
          have := he
          rw [hjN, List.take_of_length_le (by rw [HX.out]; exact Nat.le_refl _)] at this
          exact this)
        have HL0 : Hid ((dupL xs).length = N) := hide (by simp [dupL, HX.out])
        have xl := he.kx.lt
        clear he hjN
        generalize dupL xs = L0 at *
        go_wp2_with fail
        go_loopw [24] (fun ix wr => ∃ (k : Nat) (v' : Value), k ≤ N ∧ ix = .int .i64 (k : Int) ∧ EIn W0 wb s xs (useK xs L0 k) v' wr) (fun ix _ => N - (intOf ix).toNat)
        case atStart => exact ⟨0, _, Nat.zero_le _, rfl, HE.out⟩
        case round =>
          clear HE
          obtain ⟨k, v', hk, rfl, he⟩ := hrel
          by_cases hlt : k < N
          · have hln : (useK xs L0 k).length = N := by rw [useK_len]; exact HL0.out
            have hne : useK xs L0 k ≠ [] := fun e => by rw [e] at hln; simp at hln; omega
            obtain ⟨g, cap, hv⟩ := he.someV hne
            rw [hln] at hv
            subst hv
            have hrs := he.rn.size
            obtain ⟨x0, xf⟩ := he.x (q := k) (by rw [HX.out]; exact hlt)
            obtain ⟨b0, bf⟩ := he.kw.one
            have bl := he.kw.lt
            have xl := he.kx.lt
            have ow := he.ow
            rw [hln] at ow
            obtain ⟨c0, c1, f0, f1⟩ := own2_cell ow hlt
            have gl := (ow.lt g rfl).2
            have HLN := hide hln
            have HE2 := hide he
            have HUS : Hid (useK xs L0 (k + 1) = (useK xs L0 k).set k (min ((useK xs L0 k).getD k (0, 0)).1 (xs.getD k 0), max ((useK xs L0 k).getD k (0, 0)).2 (xs.getD k 0))) := hide rfl
            clear ow he hln hne
            generalize useK xs L0 k = M at *
            have HSS := hide (fun x y => HE2.out.setS HLN.out.symm k x y hlt)
            generalize xs.getD k 0 = y at *
            generalize M.getD k (0, 0) = u at *
            obtain ⟨u0, u1⟩ := u
            dsimp only at HUS c0 c1
            have ik : (k : Int) < N := by omega
            go_wp2_with fail
            go_still_tail 18, (by kernel_rfl)
            have HE3 := hide ((HE2.out.kept (Below.refl _ _).drew).setS HLN.out.symm k (min u0 y) (max u1 y) hlt)
            rw [← HUS.out] at HE3
            rw [show ({ heap := wr.heap, tape := wr.tape, drawn := wr.drawn + 1, os := wr.os, output := wr.output } : World) = wr.drew from rfl]
            go_wp2_with fail
            exact ⟨⟨k + 1, _, by omega, by go_num, HE3.out⟩, by simp [intOf]; omega⟩
          · have hkN : k = N := by omega
            subst hkN
            have HE2 := hide he
            clear he
            go_wp2_with fail
            go_end0
            exact ⟨rfl, v', by rw [HU.out, HX.out]; exact HE2.out⟩
  · by_cases hL1 : L = []
    · rw [hL1] at hL0; simp at hL0; omega
    · rw [if_neg hL1] at HU
      obtain ⟨g, cap, hv⟩ := h.someV hL1
      rw [hL0] at hv
      subst hv
      obtain ⟨b0, bf⟩ := h.kw.one
      have bl := h.kw.lt
      have HE : Hid (EIn W0 wb s xs L (.slice (some ⟨g, 0, none⟩) N cap) W) := hide h
      have HL0 := hide hL0
      clear h hL0 hL1 H
      generalize L = L0 at *
      have hEq := eql_some g N cap
      go_enter Try.func40, Try.ntmps40
      go_wp2_with fail
      clear b0 bf bl hEq
      go_loopw [24] (fun ix wr => ∃ (k : Nat) (v' : Value), k ≤ N ∧ ix = .int .i64 (k : Int) ∧ EIn W0 wb s xs (useK xs L0 k) v' wr) (fun ix _ => N - (intOf ix).toNat)
      case atStart => exact ⟨0, _, Nat.zero_le _, rfl, HE.out⟩
      case round =>
        clear HE
        obtain ⟨k, v', hk, rfl, he⟩ := hrel
        by_cases hlt : k < N
        · have hln : (useK xs L0 k).length = N := by rw [useK_len]; exact HL0.out
          have hne : useK xs L0 k ≠ [] := fun e => by rw [e] at hln; simp at hln; omega
          obtain ⟨g, cap, hv⟩ := he.someV hne
          rw [hln] at hv
          subst hv
          have hrs := he.rn.size
          obtain ⟨x0, xf⟩ := he.x (q := k) (by rw [HX.out]; exact hlt)
          obtain ⟨b0, bf⟩ := he.kw.one
          have bl := he.kw.lt
          have xl := he.kx.lt
          have ow := he.ow
          rw [hln] at ow
          obtain ⟨c0, c1, f0, f1⟩ := own2_cell ow hlt
          have gl := (ow.lt g rfl).2
          have HLN := hide hln
          have HE2 := hide he
          have HUS : Hid (useK xs L0 (k + 1) = (useK xs L0 k).set k (min ((useK xs L0 k).getD k (0, 0)).1 (xs.getD k 0), max ((useK xs L0 k).getD k (0, 0)).2 (xs.getD k 0))) := hide rfl
          clear ow he hln hne
          generalize useK xs L0 k = M at *
          have HSS := hide (fun x y => HE2.out.setS HLN.out.symm k x y hlt)
          generalize xs.getD k 0 = y at *
          generalize M.getD k (0, 0) = u at *
          obtain ⟨u0, u1⟩ := u
          dsimp only at HUS c0 c1
          have ik : (k : Int) < N := by omega
          go_wp2_with fail
          go_still_tail 18, (by kernel_rfl)
          have HE3 := hide ((HE2.out.kept (Below.refl _ _).drew).setS HLN.out.symm k (min u0 y) (max u1 y) hlt)
          rw [← HUS.out] at HE3
          rw [show ({ heap := wr.heap, tape := wr.tape, drawn := wr.drawn + 1, os := wr.os, output := wr.output } : World) = wr.drew from rfl]
          go_wp2_with fail
          exact ⟨⟨k + 1, _, by omega, by go_num, HE3.out⟩, by simp [intOf]; omega⟩
        · have hkN : k = N := by omega
          subst hkN
          have HE2 := hide he
          clear he
          go_wp2_with fail
          go_end0
          exact ⟨rfl, v', by rw [HU.out, HX.out]; exact HE2.out⟩

end Go.Proofs.Ytlbhnicengolfaa
