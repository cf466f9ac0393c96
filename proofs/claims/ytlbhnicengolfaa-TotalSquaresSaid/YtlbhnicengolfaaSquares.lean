/-
  Package total: Squares.
-/
import Derived.Test.YtlbhnicengolfaaSpans
namespace Go.Proofs.Ytlbhnicengolfaa
open Go.RowKit
set_option linter.unusedVariables false
set_option linter.unusedSimpArgs false

theorem info_asp0 : (Try.prog.info? 53).map (fun i => (i.zero, i.size, i.bytes)) = some (some (.agg #[.int .i64 0, .int .i64 0]), 2, 16) := by kernel_rfl
theorem under_asps : Try.prog.underlying 22 = some (.slice 53) := by kernel_rfl
theorem info_asp : ∃ i : TypeInfo, Try.prog.info? 53 = some i ∧ i.zero = some (.agg #[.int .i64 0, .int .i64 0]) ∧ i.size = 2 ∧ i.bytes = 16 := info_parts info_asp0

theorem nok_in {n : TNet} (h : NOk n) : ∀ t ∈ n.ts, ∀ o ∈ cor t, 0 ≤ o ∧ o < (n.sp.length : Int) := by
  intro t ht o ho
  obtain ⟨i, hi, rfl⟩ := List.mem_iff_getElem.1 ht
  have := h.tr i hi
  rw [tri_eq hi] at this
  exact chk1_in this o ho
theorem sqs_len (sp : List Sp) : (sqs sp).length = sp.length := by simp [sqs]
theorem narT_len (ts : List Tri) (ls : List Sp) : (narT ts ls).length = ls.length := narN_len _ _ _
theorem below_own {B B' : Nat} {a W W' : World} {e : TypeId} {s m : Nat} {v : Value} {xs : List Value} (h : Below B a W) (ho : W.ownsRow B' e s v m xs) (hB : B ≤ B') (hW : B ≤ W.heap.size) (g : W.grownBy W' v.ownBlock) : Below B a W' :=
  ⟨g.os.trans h.os, g.tape.trans h.tape, g.output.trans h.output, Nat.le_trans h.size g.size, fun k hk => (g.block k (by omega) (fun e => by have := (ho.lt k e.symm).1; omega)).trans (h.block k hk)⟩

/-- What Squares returns. -/
def sqR (n : TNet) : List Sp × Int :=
  if checkT n ≠ 0 then ([], checkT n) else if narOk n.ts (sqs n.sp) then (narT n.ts (sqs n.sp), 0) else ([], 13)

theorem span_take {L : List Sp} {k : Nat} (h : k < L.length) : L.take (k + 1) = L.take k ++ [((L.getD k (0, 0)).1, (L.getD k (0, 0)).2)] := by
  have e : L[k] = L.getD k (0, 0) := by simp [List.getD, h]
  rw [List.take_succ_eq_append_getElem h, e]

/-- A net that is valid, in memory. -/
structure NetIn (n : TNet) (sa ta : Option Addr) (sn tn tc : Nat) (w : World) : Prop where
  hsn : sn = n.sp.length
  htn : tn = n.ts.length
  htc : tn ≤ tc
  htc2 : tc ≤ 9223372036854775807
  hl : sn ≤ 1000000000
  hl2 : tn ≤ 1000000000
  rs : Row w w.heap.size sa (spans n.sp)
  rt : Row w w.heap.size ta (tris n.ts)
theorem NetIn.below {n : TNet} {sa ta : Option Addr} {sn tn tc : Nat} {w w' : World} (h : NetIn n sa ta sn tn tc w) (hb : Below w.heap.size w w') : NetIn n sa ta sn tn tc w' :=
  ⟨h.hsn, h.htn, h.htc, h.htc2, h.hl, h.hl2, (h.rs.below hb (Nat.le_refl _)).mono hb.size, (h.rt.below hb (Nat.le_refl _)).mono hb.size⟩
theorem NetIn.check {n : TNet} {sa ta : Option Addr} {sn tn tc : Nat} {w : World} (h : NetIn n sa ta sn tn tc w) (sc : Nat) :
    Calls Try.prog 19 #[netV sa ta sn sc tn tc] w fun e w' => e = .returned (.int .i64 (checkT n)) ∧ Below w.heap.size w w' :=
  checkF_any n sa ta sn sc tn tc w h.hsn h.htn h.hl h.hl2 h.htc h.htc2 h.rs h.rt
theorem NetIn.spans {n : TNet} {sa ta : Option Addr} {sn tn tc : Nat} {w : World} (h : NetIn n sa ta sn tn tc w) (hn : NOk n) (sc : Nat) :
    Calls Try.prog 57 #[netV sa ta sn sc tn tc] w fun e w' =>
      ∃ g cap, e = .returned (.slice (some ⟨g, 0, none⟩) sn cap) ∧ w'.ownsRow (w.heap.size + 1) 99 2 (.slice (some ⟨g, 0, none⟩) sn cap) sn (Proofs.Ytlbhnicengolfaa.spans (sqs n.sp)) ∧ Below w.heap.size w w' :=
  spans_any n sa ta sn sc tn tc w hn h.hsn h.rs
/-- narrow, of a slice that was made behind w0. -/
theorem NetIn.narrow {n : TNet} {sa ta : Option Addr} {sn tn tc : Nat} {w0 w : World} (h : NetIn n sa ta sn tn tc w0) (hn : NOk n) (sc : Nat) (ls : List Sp) (B g cap : Nat) (hb : Below w0.heap.size w0 w) (hB0 : w0.heap.size ≤ B) (hB : B ≤ w.heap.size) (hls : LsB 100000000 ls)
    (hown : w.ownsRow B 99 2 (.slice (some ⟨g, 0, none⟩) sn cap) sn (Proofs.Ytlbhnicengolfaa.spans ls)) :
    Calls Try.prog 58 #[netV sa ta sn sc tn tc, .slice (some ⟨g, 0, none⟩) sn cap] w fun e w' =>
      e = .returned (.bool (narOk n.ts ls)) ∧ w'.ownsRow B 99 2 (.slice (some ⟨g, 0, none⟩) sn cap) sn (Proofs.Ytlbhnicengolfaa.spans (narT n.ts ls)) ∧ w.grownBy w' (some g) :=
  narrow_any n.ts ls B g sn cap sa ta sn sc tn tc w h.htn (by have := h.htn; have := hn.l3; omega) h.htc h.htc2 (by have := h.hsn; have := hn.l2; omega) (fun t ht o ho => by have := nok_in hn t ht o ho; have := h.hsn; omega) hls hB ((h.rt.below hb (Nat.le_refl _)).mono hB0) hown

set_option maxRecDepth 100000 in
set_option maxHeartbeats 4000000 in
theorem squares_any (n : TNet) (sa ta : Option Addr) (sn sc tn tc : Nat) (w : World) (h : NetIn n sa ta sn tn tc w) :
    Calls Try.prog 27 #[netV sa ta sn sc tn tc] w fun e w' =>
      ∃ v, e = .returned (.tuple #[v, .int .i64 (sqR n).2]) ∧ w'.ownsRow w.heap.size 53 2 v (sqR n).1.length (spans (sqR n).1) ∧ Below w.heap.size w w' := by
  have H := hide h
  have kn := Blk.new w #[.slice sa sn sc, .slice ta tn tc] 25
  have hb1 : Below w.heap.size w (w.alloc (.cells #[.slice sa sn sc, .slice ta tn tc] 25)) := (Below.refl _ _).alloc (Nat.le_refl _) _
  have HCK := hide ((h.below hb1).check sc)
  clear h
  go_enter Try.func27, Try.ntmps27
  go_wp2_with fail
  refine HCK.out.mono ?_
  rintro e W2 ⟨rfl, hb2⟩
  have kn2 := kn.kept hb2
  have hB2 := hb1.trans (hb2.mono hb1.size)
  have hsz2 : w.heap.size < W2.heap.size := by have := hb2.size; simp at this; omega
  clear HCK kn hb1 hb2
  obtain ⟨n0, n1, _⟩ := kn2.two
  have ln := kn2.lt
  by_cases hck : checkT n = 0
  · have hn := nok_of_check hck
    have HN := hide hn
    have h0 : (checkT n != 0) = false := by simpa using hck
    have HCK := hide hck
    have HSP := hide (fun (W : World) (hb : Below w.heap.size w W) => (H.out.below hb).spans hn sc)
    clear hck hn
    go_wp2_with fail
    refine (HSP.out W2 hB2).mono ?_
    rintro e W3 ⟨g, cap, rfl, own3, hb3⟩
    have kn3 := kn2.kept hb3
    have hB3 := hB2.trans (hb3.mono hB2.size)
    have hsz3 := hb3.size
    have hgl := own3.lt g rfl
    clear n0 n1 ln kn2 HSP hb3
    obtain ⟨n0, n1, _⟩ := kn3.two
    have ln := kn3.lt
    have HNA := hide (H.out.narrow HN.out sc (sqs n.sp) (W2.heap.size + 1) g cap hB3 (by omega) (by have := hgl.2; omega) (sqs_B HN.out) own3)
    clear own3
    have HO : Hid (sqR n = if narOk n.ts (sqs n.sp) then (narT n.ts (sqs n.sp), 0) else ([], 13)) := hide (by unfold sqR; rw [if_neg (by simpa using HCK.out)])
    have hlen : sn = (narT n.ts (sqs n.sp)).length := by rw [narT_len, sqs_len]; exact H.out.hsn
    have hs11 : sn ≤ 11 := by have := H.out.hsn; have := HN.out.l2; omega
    generalize narT n.ts (sqs n.sp) = L at *
    have HL := hide hlen
    clear hlen
    go_wp2_with fail
    refine HNA.out.mono ?_
    rintro e W4 ⟨rfl, own4, gr4⟩
    have hB4 : Below w.heap.size w W4 := ⟨gr4.os.trans hB3.os, gr4.tape.trans hB3.tape, gr4.output.trans hB3.output, Nat.le_trans hB3.size gr4.size, fun k hk => (gr4.block k (by have := hB3.size; omega) (fun e => by injection e; omega)).trans (hB3.block k hk)⟩
    clear HNA gr4 hB3 kn3 n0 n1 ln
    cases hok : narOk n.ts (sqs n.sp) with
    | false =>
      have HR : Hid (sqR n = ([], 13)) := hide (by rw [HO.out, hok]; rfl)
      clear hok
      go_wp2_with fail
      exact bodyPost_ret (v := .tuple #[.slice none 0 0, .int .i64 13]) (by simp [results, Try.results27, go_sem]) rfl ⟨.slice none 0 0, by rw [HR.out], by rw [HR.out]; exact World.ownsRow_nil _ _ _ _, hB4⟩
    | true =>
      have HR : Hid (sqR n = (L, 0)) := hide (by rw [HO.out, hok]; rfl)
      obtain ⟨i0, hi, hz0, hz1, hz2⟩ := info_asp
      have HI := hide hi
      clear hok hi
      have hg4 := (own4.lt g rfl).2
      obtain ⟨_, _, _, hsc, _⟩ := own2_blk own4
      go_wp2_with fail
      go_loopw [6, 22] (fun v i wr => ∃ k : Nat, k ≤ sn ∧ i = .int .i64 (k : Int) ∧ wr.ownsRow W4.heap.size 53 2 v k (spans (L.take k)) ∧ Below W4.heap.size W4 wr) (fun _ i _ => sn - (intOf i).toNat)
      case atStart => exact ⟨0, Nat.zero_le _, rfl, World.ownsRow_nil _ _ _ _, Below.refl _ _⟩
      case round =>
        obtain ⟨k, hk, rfl, hown, hB⟩ := hrel
        have hszr := hB.size
        by_cases hlt : k < sn
        · obtain ⟨c0, c1, _, _⟩ := own2_cell (own_kept own4 hB) hlt
          have HTK := hide (span_take (L := L) (k := k) (by rw [← HL.out]; exact hlt))
          generalize L.getD k (0, 0) = S at *
          obtain ⟨x, y⟩ := S
          dsimp only at c0 c1
          have HOW := hide hown
          clear hown
          go_wp2_with (
            at_builtin
            refine wpList_append_lies _ rfl (.tmp 26) (.tmp 29) 22 rfl W4.heap.size 53 i0 (.agg #[.int .i64 0, .int .i64 0]) 2 16 under_asps HI.out hz0 hz1 hz2 rfl (by decide) _ k (spans (L.take k)) rfl ((HOW.out.alloc _).alloc _) ⟨wr.heap.size + 1, 0, none⟩ 1 1 [.int .i64 x, .int .i64 y] rfl rfl
              (World.news_of_block (cs := #[.int .i64 x, .int .i64 y]) (t := 53) (fr := (0, 0)) (Blk.newAt (by simp) _ _)) (by intro u hu; simp at hu; rcases hu with rfl | rfl <;> rfl) (by decide) (by unfold maxLen; omega) (by omega) (by simp; omega) _ rfl ?_
            intro g2 cap2 W6 ow6 gr6 at6 lt6)
          have hB6 : Below W4.heap.size W4 W6 := below_own ((hB.alloc hszr _).alloc (by simp; omega) _) ((HOW.out.alloc _).alloc _) (Nat.le_refl _) (by simp; omega) gr6
          clear gr6 at6 lt6 c0 c1
          go_roundw
          case rel => exact ⟨k + 1, by omega, by go_num, by rw [HTK.out, spans_append]; exact ow6, hB6⟩
          case measure => simp [intOf]; omega
        · have hkn : k = sn := by omega
          have HF : Hid (L.take k = L) := hide (List.take_of_length_le (by rw [hkn, HL.out]; exact Nat.le_refl _))
          rw [HF.out, hkn] at hown
          have hown' := Go.Joins.ownsRow_le hown (Nat.le_trans (Nat.le_of_lt hsz2) (by omega : W2.heap.size ≤ W4.heap.size))
          have hs1 : 1 ≤ sn := by have := HN.out.l1; have := H.out.hsn; omega
          obtain ⟨g5, cap5, rfl, _, _⟩ := hown'.form (by omega)
          clear hown
          go_wp2_with fail
          refine bodyPost_ret (v := .tuple #[.slice (some ⟨g5, 0, none⟩) sn cap5, .int .i64 0]) (by simp [results, Try.results27, go_sem]) rfl ⟨_, by rw [HR.out], by rw [HR.out]; rw [← HL.out]; exact hown', hB4.trans (hB.mono hB4.size)⟩
  · have HR : Hid (sqR n = ([], checkT n)) := hide (by unfold sqR; rw [if_pos hck])
    have h0 : (checkT n != 0) = true := by rw [bne_iff_ne]; exact hck
    clear hck
    go_wp2_with fail
    exact bodyPost_ret (v := .tuple #[.slice none 0 0, .int .i64 (checkT n)]) (by simp [results, Try.results27, go_sem]) rfl ⟨.slice none 0 0, by rw [HR.out], by rw [HR.out]; exact World.ownsRow_nil _ _ _ _, hB2⟩

end Go.Proofs.Ytlbhnicengolfaa
