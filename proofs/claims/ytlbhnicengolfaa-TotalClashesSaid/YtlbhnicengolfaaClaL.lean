/-
  The reference of total: possible, Possible. The reference of total: Suspects. TotalClashes: the walk.
-/
import Derived.Test.YtlbhnicengolfaaFarA
import Derived.Test.YtlbhnicengolfaaRootsW
import Derived.Test.YtlbhnicengolfaaLenSus
import Derived.Test.YtlbhnicengolfaaLawW
/-! ## RefP: The reference of total: possible, Possible. -/
namespace Go.Proofs.Ytlbhnicengolfaa
open Go.RowKit
set_option linter.unusedVariables false
set_option linter.unusedSimpArgs false

theorem rEq_len {ts : List Tri} {N m : Nat} (h : (rEq ts N m).2 = true) : (rEq ts N m).1.length = N := by
  unfold rEq at *
  split at h
  · cases h
  · rename_i hs
    rw [if_neg hs]
    simp
theorem pow5 {tn : Nat} (h : tn ≤ 5) : ∃ N2 : Nat, N2 = 2 ^ tn ∧ wrap64 (2 ^ tn) = (N2 : Int) ∧ N2 ≤ 32 ∧ 1 ≤ N2 := by
  have : tn = 0 ∨ tn = 1 ∨ tn = 2 ∨ tn = 3 ∨ tn = 4 ∨ tn = 5 := by omega
  rcases this with rfl | rfl | rfl | rfl | rfl | rfl <;> exact ⟨_, rfl, by decide +kernel, by decide, by decide⟩
theorem rPosK_yes {n : TNet} {m : Nat} (h1 : 1 ≤ m) (h : rPosK n m = true) (hm : rPos1 n m = true) : rPosK n (m + 1) = true := by
  unfold rPosK
  rw [h, hm]; simp
theorem rPos_no {n : TNet} {m : Nat} (h1 : 1 ≤ m) (h2 : m < 2 ^ n.ts.length) (hm : rPos1 n m = false) : rPos n = false := by
  cases h : rPos n with
  | false => rfl
  | true =>
    have := rPosK_all.1 (show rPosK n (2 ^ n.ts.length) = true from h) m h1 h2
    rw [hm] at this; cases this

set_option maxRecDepth 100000 in
set_option maxHeartbeats 8000000 in
theorem possible_any (n : TNet) (sa ta : Option Addr) (sn sc tn tc : Nat) (w : World) (h : NetIn n sa ta sn tn tc w) (hs11 : sn ≤ 11) (ht5 : tn ≤ 5) (hw : SpW n.sp) :
    Calls Try.prog 61 #[netV sa ta sn sc tn tc] w fun e w' => e = .returned (.bool (rPos n)) ∧ Below w.heap.size w w' := by
  have H := hide h
  have HSP := hide hw
  obtain ⟨N2, hN2, hsh, hN32, hN1⟩ := pow5 ht5
  have HN2 := hide hN2
  have hb1 : Below w.heap.size w (w.alloc (.cells #[.slice sa sn sc, .slice ta tn tc] 35)) := (Below.refl _ _).alloc (Nat.le_refl _) _
  have kn := Blk.new w #[.slice sa sn sc, .slice ta tn tc] 35
  clear h hN2 hw
  go_enter Try.func61, Try.ntmps61
  go_wp2_with fail
  go_loopw [3] (fun ix wr => ∃ m : Nat, 1 ≤ m ∧ m ≤ N2 ∧ ix = .int .i64 (m : Int) ∧ rPosK n m = true ∧ Below w.heap.size w wr ∧ Blk wr w.heap.size #[.slice sa sn sc, .slice ta tn tc] 35) (fun ix _ => N2 - (intOf ix).toNat)
  case atStart => exact ⟨1, Nat.le_refl _, hN1, rfl, by simp [rPosK], hb1, kn⟩
  case round =>
    clear hb1 kn
    obtain ⟨m, hm1, hm2, rfl, hall, hB, kn⟩ := hrel
    obtain ⟨n0, n1, _⟩ := kn.two
    have ln := kn.lt
    by_cases hlt : m < N2
    · have HQ := hide (refEq_any n m sa ta sn sc tn tc wr (H.out.below hB) hs11 ht5 (by omega))
      have HL := hide (fun h => rEq_len (ts := n.ts) (N := n.sp.length) (m := m) h)
      have HP1 : Hid (rPos1 n m = (!(rEq n.ts n.sp.length m).2 || (decide ((reK n.sp (rEq n.ts n.sp.length m).1 (-1) n.sp.length).1 ≤ 0) && decide (0 ≤ (reK n.sp (rEq n.ts n.sp.length m).1 (-1) n.sp.length).2)))) := hide rfl
      have HLT := hide (show m < 2 ^ n.ts.length by rw [← H.out.htn, ← HN2.out]; exact hlt)
      have HALL := hide hall
      rw [← H.out.hsn] at HL HP1
      have dlt : decide ((m : Int) < (N2 : Int)) = true := decide_eq_true (by omega)
      clear hall
      generalize rEq n.ts sn m = R at *
      obtain ⟨cs, b⟩ := R
      dsimp only at HL HP1
      go_wp2_with fail
      simp only [hsh]
      clear hsh dlt
      refine HQ.out.mono ?_
      rintro e W2 ⟨v, rfl, hv, hb2⟩
      dsimp only at hv
      have kn2 := kn.kept hb2
      have hB2 := hB.trans (hb2.mono hB.size)
      clear HQ hb2 hB kn n0 n1 ln
      cases b with
      | false =>
        have HX := hide (rPosK_yes hm1 HALL.out (by rw [HP1.out]; rfl))
        clear hv HP1 HALL
        go_wp2_with fail
        exact ⟨⟨m + 1, by omega, by omega, by go_num, HX.out, hB2, kn2⟩, by simp [intOf]; omega⟩
      | true =>
        obtain ⟨g, rfl, hgs, hbk⟩ := hv rfl
        have hlen := HL.out rfl
        have hg2 := hbk.lt
        have HRE := hide (reach_any n cs (-1) sa (some ⟨g, 0, none⟩) (.slice ta tn tc) sn sc sn W2 H.out.hsn hs11 HSP.out (H.out.below hB2).rs hlen ((row_of_heap hbk (by rw [List.toList_toArray, List.take_length])).mono (by omega)))
        obtain ⟨n0, n1, _⟩ := kn2.two
        have ln := kn2.lt
        clear hv hlen hbk hgs HL
        have HP : Hid (rPos1 n m = (decide ((reK n.sp cs (-1) sn).1 ≤ 0) && decide (0 ≤ (reK n.sp cs (-1) sn).2))) := hide (by rw [HP1.out]; rfl)
        clear HP1
        generalize reK n.sp cs (-1) sn = S at *
        obtain ⟨x, y⟩ := S
        dsimp only at HP HRE
        go_wp2_with fail
        refine HRE.out.mono ?_
        rintro e W3 ⟨rfl, hb3⟩
        have hB3 := hB2.trans (hb3.mono hB2.size)
        obtain ⟨V3, hV3⟩ : ∃ V3, W3.alloc (.cells #[.int .i64 x, .int .i64 y] 53) = V3 := ⟨_, rfl⟩
        have hB4 : Below w.heap.size w V3 := by rw [← hV3]; exact hB3.alloc hB3.size _
        have k3 : Blk V3 W3.heap.size #[.int .i64 x, .int .i64 y] 53 := by rw [← hV3]; exact Blk.new _ _ _
        have kn3 : Blk V3 w.heap.size #[.slice sa sn sc, .slice ta tn tc] 35 := by rw [← hV3]; exact (kn2.kept hb3).alloc _
        obtain ⟨t0, t1, _⟩ := k3.two
        have lt := k3.lt
        clear HRE k3 n0 n1 ln hb3 hB3 hB2 kn2
        by_cases hx : 0 < x
        · have d1 : decide (0 < x) = true := decide_eq_true hx
          have HF := hide (rPos_no hm1 HLT.out (by rw [HP.out, decide_eq_false (by omega : ¬ x ≤ 0)]; rfl))
          clear hx
          go_wp2_with fail
          exact bodyPost_ret (v := .bool false) (by simp [results, Try.results61, go_sem]) rfl ⟨by rw [HF.out], hB4⟩
        · have d1 : decide (0 < x) = false := decide_eq_false hx
          by_cases hy : y < 0
          · have d2 : decide (y < 0) = true := decide_eq_true hy
            have HF := hide (rPos_no hm1 HLT.out (by rw [HP.out, decide_eq_false (by omega : ¬ 0 ≤ y), Bool.and_false]))
            clear hx hy
            go_wp2_with fail
            exact bodyPost_ret (v := .bool false) (by simp [results, Try.results61, go_sem]) rfl ⟨by rw [HF.out], hB4⟩
          · have d2 : decide (y < 0) = false := decide_eq_false hy
            have HX := hide (rPosK_yes hm1 HALL.out (by rw [HP.out, decide_eq_true (by omega : x ≤ 0), decide_eq_true (by omega : 0 ≤ y)]; rfl))
            clear hx hy
            go_wp2_with fail
            exact ⟨⟨m + 1, by omega, by omega, by go_num, HX.out, hB4, kn3⟩, by simp [intOf]; omega⟩
    · have hme : m = N2 := by omega
      have HF : Hid (rPos n = true) := hide (by unfold rPos; rw [← H.out.htn, ← HN2.out, ← hme]; exact hall)
      have dlt : decide ((m : Int) < (N2 : Int)) = false := decide_eq_false (by omega)
      clear hme hall
      go_wp2_with fail
      simp only [hsh]
      exact bodyPost_ret (v := .bool true) (by simp [results, Try.results61, go_sem]) rfl ⟨by rw [HF.out], hB⟩

/-- What Possible returns. -/
def rPoss (n : TNet) : Bool × Int := if checkT n ≠ 0 then (false, checkT n) else (rPos n, 0)
set_option maxRecDepth 100000 in
set_option maxHeartbeats 8000000 in
theorem refPoss_any (n : TNet) (sa ta : Option Addr) (sn sc tn tc : Nat) (w : World) (h : NetIn n sa ta sn tn tc w) :
    Calls Try.prog 35 #[netV sa ta sn sc tn tc] w fun e w' => e = .returned (.tuple #[.bool (rPoss n).1, .int .i64 (rPoss n).2]) ∧ Below w.heap.size w w' := by
  have H := hide h
  have HR : Hid (rPoss n = if checkT n ≠ 0 then (false, checkT n) else (rPos n, 0)) := hide rfl
  have hb1 : Below w.heap.size w (w.alloc (.cells #[.slice sa sn sc, .slice ta tn tc] 35)) := (Below.refl _ _).alloc (Nat.le_refl _) _
  have kn := Blk.new w #[.slice sa sn sc, .slice ta tn tc] 35
  have HCK := hide (refCheck_any n sa ta sn sc tn tc _ (h.below hb1))
  have HNK := hide (fun h => nok_of_check (n := n) h)
  rw [rCheck_eq] at HCK
  obtain ⟨n0, n1, _⟩ := kn.two
  have ln := kn.lt
  clear h
  generalize checkT n = E at *
  go_enter Try.func35, Try.ntmps35
  go_wp2_with fail
  refine HCK.out.mono ?_
  rintro e W2 ⟨rfl, hb2⟩
  have kn2 := kn.kept hb2
  have hB2 := hb1.trans (hb2.mono hb1.size)
  clear hb1 hb2 kn HCK n0 n1 ln
  obtain ⟨n0, n1, _⟩ := kn2.two
  have ln := kn2.lt
  by_cases h0 : E = 0
  · have hn := HNK.out h0
    have HPO := hide (possible_any n sa ta sn sc tn tc W2 (H.out.below hB2) (by have := H.out.hsn; have := hn.l2; omega) (by have := H.out.htn; have := hn.l3; omega) (nok_spw hn))
    have HF : Hid (rPoss n = (rPos n, 0)) := hide (by rw [HR.out, if_neg (by simpa using h0)])
    have d0 : (E != 0) = false := by rw [h0]; rfl
    clear h0 hn HR
    go_wp2_with fail
    refine HPO.out.mono ?_
    rintro e W3 ⟨rfl, hb3⟩
    go_wp2_with fail
    exact bodyPost_ret (v := .tuple #[.bool (rPos n), .int .i64 0]) (by simp [results, Try.results35, go_sem]) rfl ⟨by rw [HF.out], hB2.trans (hb3.mono hB2.size)⟩
  · have HF : Hid (rPoss n = (false, E)) := hide (by rw [HR.out, if_pos h0])
    have d0 : (E != 0) = true := by rw [bne_iff_ne]; exact h0
    clear h0
    go_wp2_with fail
    exact bodyPost_ret (v := .tuple #[.bool false, .int .i64 E]) (by simp [results, Try.results35, go_sem]) rfl ⟨by rw [HF.out], hB2⟩

end Go.Proofs.Ytlbhnicengolfaa

/-! ## RefSu: The reference of total: Suspects. -/
namespace Go.Proofs.Ytlbhnicengolfaa
open Go.RowKit
set_option linter.unusedVariables false
set_option linter.unusedSimpArgs false

/-! ### which quantities are suspect -/
def withR (n : TNet) (q : Nat) : TNet := ⟨n.sp.set q (0, 40000), n.ts⟩
theorem sqs_withR (n : TNet) (q : Nat) : sqs (withR n q).sp = (sqs n.sp).set q (0, 1600000000) := by
  unfold withR
  rw [sqs_set]
  rfl
theorem sq_big {n : TNet} (h : NOk n) {p : Nat} (hp : p < n.sp.length) : 0 ≤ ((sqs n.sp).getD p (0, 0)).1 ∧ ((sqs n.sp).getD p (0, 0)).1 ≤ ((sqs n.sp).getD p (0, 0)).2 ∧ ((sqs n.sp).getD p (0, 0)).2 ≤ 100000000 := by
  have := h.sp p hp
  rw [sqs_at hp]
  dsimp only
  have a := sq_mono this.1 this.2.1
  have b := sq_mono (a := his n.sp p) (b := 10000) (by omega) this.2.2
  have c := Int.mul_nonneg this.1 this.1
  omega
theorem setS_get {L : List Sp} {q p : Nat} (v : Sp) (hq : q < L.length) : (L.set q v).getD p (0, 0) = if p = q then v else L.getD p (0, 0) := set_getDR L q p v (0, 0) hq
theorem free_is {n : TNet} (h : NOk n) {q : Nat} (hq : q < n.sp.length) : rPos (withR n q) = freeOk n q := by
  have hlen := sqs_len n.sp
  have hs : SpOk n (withR n q).sp := ⟨by unfold withR; simp, fun p => by
    unfold fnS
    by_cases h0 : 0 ≤ p
    · rw [if_pos h0, sqs_withR]
      by_cases hp : p < (n.sp.length : Int)
      · unfold spA
        rw [setS_get _ (by omega)]
        split
        · decide
        · exact (sq_big h (p := p.toNat) (by omega)).2.1
      · rw [spA_out (by rw [List.length_set]; omega)]; exact Int.le_refl _
    · rw [if_neg h0]; exact Int.le_refl _⟩
  have e1 : rPos (withR n q) = true ↔ ∃ x, Tru n.ts (sqs (withR n q).sp) x := rPos_is h hs
  have e2 : freeOk n q = true ↔ ∃ x, Tru n.ts ((sqs n.sp).set q (0, 1125899906842624)) x := ok_iff h (by rw [List.length_set, hlen])
  rw [sqs_withR] at e1
  have key : (∃ x, Tru n.ts ((sqs n.sp).set q (0, 1600000000)) x) ↔ ∃ x, Tru n.ts ((sqs n.sp).set q (0, 1125899906842624)) x := by
    have hat : ∀ (v : Sp) (x : Int → Int), Tru n.ts ((sqs n.sp).set q v) x → InS v (x q) ∧ ∀ p : Nat, p < n.sp.length → p ≠ q → InS ((sqs n.sp).getD p (0, 0)) (x p) := fun v x hx => by
      have hg : ∀ p : Nat, p < n.sp.length → InS (((sqs n.sp).set q v).getD p (0, 0)) (x p) := fun p hp => by
        have := hx.sp (p : Int) (by omega) (by rw [List.length_set]; omega)
        rwa [spA_nat] at this
      refine ⟨?_, fun p hp hne => ?_⟩
      · have := hg q hq
        rwa [setS_get _ (by omega), if_pos rfl] at this
      · have := hg p hp
        rwa [setS_get _ (by omega), if_neg hne] at this
    have hmk : ∀ (v : Sp) (x : Int → Int), InS v (x q) → (∀ p : Nat, p < n.sp.length → p ≠ q → InS ((sqs n.sp).getD p (0, 0)) (x p)) → (∀ t ∈ n.ts, Hl x t) → Tru n.ts ((sqs n.sp).set q v) x := fun v x h1 h2 h3 => ⟨fun p h0 hp => by
      rw [List.length_set] at hp
      obtain ⟨k, rfl⟩ : ∃ k : Nat, p = (k : Int) := ⟨p.toNat, by omega⟩
      rw [spA_nat, setS_get _ (by omega)]
      split
      · rename_i e; subst e; exact h1
      · rename_i e; exact h2 k (by omega) e, h3⟩
    constructor
    · rintro ⟨x, hx⟩
      obtain ⟨a, b⟩ := hat _ x hx
      exact ⟨x, hmk _ x (by unfold InS at a ⊢; dsimp only at a ⊢; omega) b hx.tr⟩
    · rintro ⟨x, hx⟩
      obtain ⟨a, b⟩ := hat _ x hx
      by_cases hm : ∃ t ∈ n.ts, (q : Int) ∈ cor t
      · obtain ⟨t, ht, hqt⟩ := hm
        refine ⟨x, hmk _ x ?_ b hx.tr⟩
        have hin := nok_in h t ht
        have hd := (nok_fr h).dis t ht
        have hb : ∀ o ∈ cor t, o ≠ (q : Int) → 0 ≤ x o ∧ x o ≤ 100000000 := fun o ho hne => by
          have h0 := hin o ho
          have hk := b o.toNat (by omega) (by omega)
          have hs := sq_big h (p := o.toNat) (by omega)
          rw [show ((o.toNat : Nat) : Int) = o by omega] at hk
          unfold InS at hk
          omega
        have hh := hx.tr t ht
        unfold Hl at hh
        unfold InS at a ⊢
        dsimp only at a ⊢
        have ha := hb t.1 (by simp [cor])
        have hb2 := hb t.2.1 (by simp [cor])
        have hw := hb t.2.2 (by simp [cor])
        simp only [cor, List.mem_cons, List.not_mem_nil, or_false] at hqt
        obtain ⟨d1, d2, d3⟩ := hd
        rcases hqt with e | e | e
        · rw [← e] at hh d1 d2
          have := hb2 (fun h => d1 h.symm)
          have := hw (fun h => d2 h.symm)
          omega
        · rw [← e] at hh d1 d3
          have := ha d1
          have := hw (fun h => d3 h.symm)
          omega
        · rw [← e] at hh d2 d3
          have := ha d2
          have := hb2 d3
          omega
      · refine ⟨fun p => if p = (q : Int) then 0 else x p, hmk _ _ ?_ (fun p hp hne => ?_) fun t ht => ?_⟩
        · rw [if_pos rfl]; exact ⟨by decide, by decide⟩
        · rw [if_neg (by omega)]; exact b p hp hne
        · have hno : ∀ o ∈ cor t, o ≠ (q : Int) := fun o ho e => hm ⟨t, ht, by rw [← e]; exact ho⟩
          unfold Hl
          dsimp only
          rw [if_neg (hno _ (by simp [cor])), if_neg (hno _ (by simp [cor])), if_neg (hno _ (by simp [cor]))]
          exact hx.tr t ht
  rw [Bool.eq_iff_iff, e1, e2]
  exact key
def rSusL (n : TNet) (k : Nat) : List Int := ((List.range k).filter fun q => rPos (withR n q)).map fun q : Nat => (q : Int)
theorem rSusL_is {n : TNet} (h : NOk n) : rSusL n n.sp.length = susL n n.sp.length := by
  unfold rSusL susL
  congr 1
  refine List.filter_congr fun q hq => ?_
  exact free_is h (List.mem_range.1 hq)
theorem rSusL_yes {n : TNet} {k : Nat} (h : rPos (withR n k) = true) : rSusL n (k + 1) = rSusL n k ++ [(k : Int)] := by simp [rSusL, List.range_succ, List.filter_append, h]
theorem rSusL_no {n : TNet} {k : Nat} (h : rPos (withR n k) = false) : rSusL n (k + 1) = rSusL n k := by simp [rSusL, List.range_succ, List.filter_append, h]
theorem rSusL_len (n : TNet) (k : Nat) : (rSusL n k).length ≤ k := by
  unfold rSusL
  rw [List.length_map]
  exact Nat.le_trans (List.length_filter_le _ _) (by simp)
theorem withR_spw {n : TNet} (h : NOk n) (q : Nat) : SpW (withR n q).sp := fun k hk => by
  unfold withR at hk ⊢
  dsimp only at hk ⊢
  rw [List.length_set] at hk
  have := h.sp k hk
  by_cases hq : q < n.sp.length
  · obtain ⟨a, b⟩ := los_set hq (0, 40000) k
    rw [a, b]
    split
    · decide
    · omega
  · rw [List.set_eq_of_length_le (by omega)]; omega
/-- What the reference's Suspects returns. -/
def rSus (n : TNet) : List Int × Int := if (rPoss n).2 ≠ 0 then ([], (rPoss n).2) else if (rPoss n).1 = true then ([], 6) else (rSusL n n.sp.length, 0)

/-! ### the copied net -/
theorem ownBlkR {W : World} {B k n s g : Nat} {e t : TypeId} {v : Value} {xs : List Value} {cs : Array Value} (h : W.ownsRow B e s v n xs) (hv : v.ownBlock = some g) (hk : Blk W k cs t) (hne : e ≠ t) : g ≠ k := by
  rintro rfl
  rcases h.2 with ⟨rfl, _⟩ | ⟨g', cp, cur, rfl, _, hc, _⟩
  · cases hv
  · cases hv
    rw [show W.heap[_]? = _ from hk] at hc
    injection hc with hc
    injection hc with _ h2 _
    exact hne h2.symm
theorem own_setR {W : World} {B n s k i : Nat} {e t : TypeId} {v u : Value} {xs : List Value} {cs : Array Value} (h : W.ownsRow B e s v n xs) (hk : Blk W k cs t) (hne : e ≠ t) : (W.setCell ⟨k, i, none⟩ u).ownsRow B e s v n xs :=
  h.kept (row := some k) (own2_grown _ _ _ _) (by
    cases hv : v.ownBlock with
    | none => exact .inl rfl
    | some j => exact .inr fun e => ownBlkR h hv hk hne (by injection e))
def rcNil (v : Value) : Prop := ∃ b, v = .slice (some ⟨b, 0, none⟩) 0 0
def rcOwn (B N : Nat) (sp : List Sp) (w : World) (v : Value) : Prop := ∃ g c, v = .slice (some ⟨g, 0, none⟩) N c ∧ w.ownsRow B 53 2 (.slice (some ⟨g, 0, none⟩) N c) N (spans sp)
def rcAgg (B N : Nat) (sp : List Sp) (tv : Value) (w : World) (v : Value) : Prop := ∃ g c, v = .agg #[.slice (some ⟨g, 0, none⟩) N c, tv] ∧ w.ownsRow B 53 2 (.slice (some ⟨g, 0, none⟩) N c) N (spans sp)
def rcBox (B : Nat) (w : World) (v : Value) : Prop := ∃ p, v = .pointer (some ⟨p, 0, none⟩) ∧ B ≤ p ∧ Blk w p #[.slice none 0 0, .slice none 0 0] 35
theorem rcOwn_below {B N : Nat} {sp : List Sp} {w w' : World} {v : Value} (h : rcOwn B N sp w v) (hb : Below w.heap.size w w') : rcOwn B N sp w' v := by
  obtain ⟨g, c, e, ho⟩ := h
  exact ⟨g, c, e, own_kept ho hb⟩
theorem rcAgg_below {B N : Nat} {sp : List Sp} {tv : Value} {w w' : World} {v : Value} (h : rcAgg B N sp tv w v) (hb : Below w.heap.size w w') : rcAgg B N sp tv w' v := by
  obtain ⟨g, c, e, ho⟩ := h
  exact ⟨g, c, e, own_kept ho hb⟩
theorem rcBox_below {B : Nat} {w w' : World} {v : Value} (h : rcBox B w v) (hb : Below w.heap.size w w') : rcBox B w' v := by
  obtain ⟨p, e, hp, hk⟩ := h
  exact ⟨p, e, hp, hk.kept hb⟩
def rcGood (nb B N : Nat) (sv tv : Value) (sp : List Sp) : Nat → World → Value → Prop
  | 0, _, v => v = .pointer (some ⟨nb, 1, none⟩)
  | 1, _, v => v = tv
  | 2, _, v => rcNil v
  | 3, _, v => v = .pointer (some ⟨nb, 0, none⟩)
  | 4, _, v => v = sv
  | 5, w, v => (rcOwn B N sp) w v
  | 6, w, v => (rcAgg B N sp tv) w v
  | 7, w, v => (rcBox B) w v
  | _, _, v => v = .bool true
theorem rcGood_below {nb B N : Nat} {sv tv : Value} {sp : List Sp} (i : Nat) (w w' : World) (v : Value) (h : (rcGood nb B N sv tv sp) i w v) (hb : Below w.heap.size w w') : (rcGood nb B N sv tv sp) i w' v := by
  unfold rcGood at h
  split at h <;> first | exact rcOwn_below h hb | exact rcAgg_below h hb | exact rcBox_below h hb | exact h | (unfold rcGood; split <;> first | exact h | (exfalso; simp_all))
theorem netin_ownR {n : TNet} {sa ta : Option Addr} {N T tcap : Nat} {w W : World} (h : NetIn n sa ta N T tcap w) (hb : Below w.heap.size w W) {B g c : Nat} {sp' : List Sp} (ho : W.ownsRow B 53 2 (.slice (some ⟨g, 0, none⟩) N c) N (spans sp')) (hl : sp'.length = N) : NetIn ⟨sp', n.ts⟩ (some ⟨g, 0, none⟩) ta N T tcap W :=
  have h' := h.below hb
  ⟨hl.symm, h'.htn, h'.htc, h'.htc2, h'.hl, h'.hl2, own2_row ho, h'.rt⟩
structure RsIn (w : World) (n : TNet) (sa ta : Option Addr) (sn sc tn tc : Nat) (v : Value) (m : Nat) (xs : List Int) (wr : World) : Prop where
  kn : Blk wr w.heap.size #[.slice sa sn sc, .slice ta tn tc] 35
  rs : Row wr wr.heap.size sa (spans n.sp)
  ow : wr.ownsRow (w.heap.size + 1) 3 1 v m (ints xs)
  be : Below w.heap.size w wr
theorem RsIn.kept {w : World} {n : TNet} {sa ta : Option Addr} {sn sc tn tc m : Nat} {v : Value} {xs : List Int} {wr W : World} (h : RsIn w n sa ta sn sc tn tc v m xs wr) (hb : Below wr.heap.size wr W) : RsIn w n sa ta sn sc tn tc v m xs W :=
  ⟨h.kn.kept hb, row_keep h.rs hb, own_kept h.ow hb, h.be.trans (hb.mono h.be.size)⟩

set_option maxRecDepth 100000 in
set_option maxHeartbeats 8000000 in
theorem refSus_any (n : TNet) (sa ta : Option Addr) (sn sc tn tc : Nat) (w : World) (h : NetIn n sa ta sn tn tc w) :
    Calls Try.prog 37 #[netV sa ta sn sc tn tc] w fun e w' =>
      ∃ v, e = .returned (.tuple #[v, .int .i64 (rSus n).2]) ∧ w'.ownsRow w.heap.size 3 1 v (rSus n).1.length (ints (rSus n).1) ∧ Below w.heap.size w w' := by
  have hb1 : Below w.heap.size w (w.alloc (.cells #[.slice sa sn sc, .slice ta tn tc] 35)) := (Below.refl _ _).alloc (Nat.le_refl _) _
  have kn := Blk.new w #[.slice sa sn sc, .slice ta tn tc] 35
  have HPO := hide (refPoss_any n sa ta sn sc tn tc _ (h.below hb1))
  have H := hide h
  have HR : Hid (rSus n = if (rPoss n).2 ≠ 0 then ([], (rPoss n).2) else if (rPoss n).1 = true then ([], 6) else (rSusL n n.sp.length, 0)) := hide rfl
  have HNK : Hid ((rPoss n).2 = 0 → NOk n) := hide fun h => by
    unfold rPoss at h
    split at h
    · rename_i h2; exact absurd h h2
    · rename_i h2; exact nok_of_check (Decidable.not_not.1 h2)
  clear h
  generalize rPoss n = R at *
  obtain ⟨pb, E⟩ := R
  dsimp only at HR HNK HPO
  obtain ⟨n0, n1, _⟩ := kn.two
  have ln := kn.lt
  go_enter Try.func37, Try.ntmps37
  go_wp2_with fail
  refine HPO.out.mono ?_
  rintro e W2 ⟨rfl, hb2⟩
  have kn2 := kn.kept hb2
  have hB2 := hb1.trans (hb2.mono hb1.size)
  clear hb1 hb2 kn HPO n0 n1 ln
  obtain ⟨n0, n1, _⟩ := kn2.two
  have ln := kn2.lt
  by_cases h0 : E = 0
  rotate_left
  · have HF : Hid (rSus n = ([], E)) := hide (by rw [HR.out, if_pos h0])
    have d0 : (E == 0) = false := by rw [beq_eq_false_iff_ne]; exact h0
    have d1 : (E != 0) = true := by rw [bne_iff_ne]; exact h0
    clear h0
    go_wp2_with fail
    exact bodyPost_ret (v := .tuple #[.slice none 0 0, .int .i64 E]) (by simp [results, Try.results37, go_sem]) rfl ⟨_, by rw [HF.out], by rw [HF.out]; exact World.ownsRow_nil _ _ _ _, hB2⟩
  subst h0
  cases pb with
  | true =>
    have HF : Hid (rSus n = ([], 6)) := hide (by rw [HR.out, if_neg (by simp), if_pos rfl])
    go_wp2_with fail
    exact bodyPost_ret (v := .tuple #[.slice none 0 0, .int .i64 6]) (by simp [results, Try.results37, go_sem]) rfl ⟨_, by rw [HF.out], by rw [HF.out]; exact World.ownsRow_nil _ _ _ _, hB2⟩
  | false =>
  have HF : Hid (rSus n = (rSusL n sn, 0)) := hide (by rw [HR.out, if_neg (by simp), if_neg (by simp), H.out.hsn])
  have HN := hide (HNK.out rfl)
  have hs11 : sn ≤ 11 := by have := H.out.hsn; have := HN.out.l2; omega
  have ht5 : tn ≤ 5 := by have := H.out.htn; have := HN.out.l3; omega
  have hs1 : 1 ≤ sn := by have := H.out.hsn; have := HN.out.l1; omega
  have HSL := hide H.out.hsn.symm
  obtain ⟨j0, hj0, iz0, iz1, iz2⟩ := info_int
  have HJ := hide hj0
  clear HNK HR hj0
  go_wp2_with fail
  clear n0 n1 ln
  go_loopw [6, 7] (fun v i wr => ∃ k : Nat, k ≤ sn ∧ i = .int .i64 (k : Int) ∧ RsIn w n sa ta sn sc tn tc v (rSusL n k).length (rSusL n k) wr) (fun _ i _ => sn - (intOf i).toNat)
  case atStart => exact ⟨0, Nat.zero_le _, rfl, kn2, (H.out.below hB2).rs, World.ownsRow_nil _ _ _ _, hB2⟩
  case round =>
    clear hB2 kn2
    obtain ⟨k, hk, rfl, hin⟩ := hrel
    have HSH := hide hin
    obtain ⟨n0, n1, _⟩ := hin.kn.two
    have ln := hin.kn.lt
    by_cases hlt : k < sn
    · obtain ⟨va, vcap, hva, hvc, hvm⟩ := own_shape hin.ow
      subst hva
      have hlen := rSusL_len n k
      obtain ⟨sb, soff, hsa, hsb, -⟩ := hin.rs.span (by rw [HSL.out]; omega)
      subst hsa
      clear hin
      go_wp2_with fail
      have HC := hide (fun (W : World) (hb : Below wr.heap.size wr W) => (HSH.out.kept hb))
      have hbz := HSH.out.kn.lt
      obtain ⟨i0, hi0, hz0, hz1, hz2⟩ := info_asp
      have HI := hide hi0
      clear hi0
      refine wp_region_monoF wr _ 8 (rcGood w.heap.size wr.heap.size sn (.slice (some ⟨sb, soff, none⟩) sn sc) (.slice ta tn tc) n.sp) (n := 48) (by kernel_rfl) (by decide +kernel) rfl rcGood_below ?steps ?_
      case steps =>
        refine ⟨?_, ?_, ?_, ?_, ?_, ?_, ?_, ?_, trivial⟩
        · intro ac w' h
          have e1 : ac.tmps.getD 1 undef = .pointer (some ⟨w.heap.size, 0, none⟩) := h.old 1 rfl
          refine ⟨wanted_none rfl, ?_⟩
          simp at e1
          have HBE := hide h.be
          clear h
          go_simp
          exact ⟨Below.refl _ _, rfl⟩
        · intro ac w' h
          have e1 : ac.tmps.getD 29 undef = .pointer (some ⟨w.heap.size, 1, none⟩) := h.val 0 29 rfl rfl
          refine ⟨wanted_none rfl, ?_⟩
          simp at e1
          have q := (HC.out w' h.be).kn.two
          have HBE := hide h.be
          clear h
          go_simp
          exact ⟨Below.refl _ _, rfl⟩
        · intro ac w' h
          refine ⟨wanted_none rfl, ?_⟩
          have HBE := hide h.be
          clear h
          go_simp
          exact ⟨(Below.refl _ _).alloc (Nat.le_refl _) _, ⟨_, rfl⟩⟩
        · intro ac w' h
          have e1 : ac.tmps.getD 1 undef = .pointer (some ⟨w.heap.size, 0, none⟩) := h.old 1 rfl
          refine ⟨wanted_none rfl, ?_⟩
          simp at e1
          have HBE := hide h.be
          clear h
          go_simp
          exact ⟨Below.refl _ _, rfl⟩
        · intro ac w' h
          have e1 : ac.tmps.getD 32 undef = .pointer (some ⟨w.heap.size, 0, none⟩) := h.val 3 32 rfl rfl
          refine ⟨wanted_none rfl, ?_⟩
          simp at e1
          have q := (HC.out w' h.be).kn.two
          have HBE := hide h.be
          clear h
          go_simp
          exact ⟨Below.refl _ _, rfl⟩
        · intro ac w' h
          obtain ⟨b46, e46⟩ : rcNil (ac.tmps.getD 31 undef) := h.val 2 31 rfl rfl
          have e48 : ac.tmps.getD 33 undef = .slice (some ⟨sb, soff, none⟩) sn sc := h.val 4 33 rfl rfl
          refine ⟨wanted_none rfl, ?_⟩
          simp at e46 e48
          have hbs := h.be.size
          obtain ⟨v', w1, hr, ho, hg⟩ := run_append_arg_grows (P := Try.prog) w' 22 22 53 i0 (.agg #[.int .i64 0, .int .i64 0]) 2 16 under_asps HI.out hz0 hz1 hz2 rfl (by decide) ⟨b46, 0, none⟩ 0 0 [] rfl (by simp) ⟨sb, soff, none⟩ sn sc (spans n.sp) (by rw [spans_length, HSL.out]; omega) (fun j u hj => row_reads (HC.out w' h.be).rs j u hj) (by omega) (by unfold maxLen; omega) (by omega)
          have hs1 : ac.eval (.tmp 31) = .slice (some ⟨b46, 0, none⟩) 0 0 := by simpa [Act.eval] using e46
          have hs2 : ac.eval (.tmp 33) = .slice (some ⟨sb, soff, none⟩) sn sc := by simpa [Act.eval] using e48
          clear h e46 e48
          unfold stepUpon
          simp [execOp, resolve, invoke, builtin, hs1, hs2, hr, Result.andThen]
          refine ⟨below_of_grown hg, ?_⟩
          have ho' := Go.Joins.ownsRow_le ho hbs
          rw [Nat.zero_add, List.nil_append] at ho'
          obtain ⟨ga, gc, e, _, _⟩ := own_shape ho'
          subst e
          obtain ⟨g, c, e2, _, _⟩ := ho'.form (by omega)
          cases e2
          exact ⟨g, gc, rfl, ho'⟩
        · intro ac w' h
          have e45 : ac.tmps.getD 30 undef = .slice ta tn tc := h.val 1 30 rfl rfl
          obtain ⟨g49, c49, e49, hv49⟩ : (rcOwn wr.heap.size sn n.sp) w' (ac.tmps.getD 34 undef) := h.val 5 34 rfl rfl
          refine ⟨wanted_none rfl, ?_⟩
          simp at e45 e49
          have Hhv49 := hide hv49
          clear hv49
          clear h
          go_simp
          exact ⟨Below.refl _ _, ⟨_, _, rfl, Hhv49.out⟩⟩
        · intro ac w' h
          refine ⟨wanted_none rfl, ?_⟩
          have hbs := h.be.size
          clear h
          go_simp
          exact ⟨(Below.refl _ _).alloc (Nat.le_refl _) _, ⟨_, rfl, hbs, Blk.new _ _ _⟩⟩
      intro vs w2 hb2 hv
      have v0 := hv 0 (by omega)
      have v1 := hv 1 (by omega)
      obtain ⟨g2, v2⟩ := hv 2 (by omega)
      have v3 := hv 3 (by omega)
      have v4 := hv 4 (by omega)
      obtain ⟨g5, c5, v5, -⟩ := hv 5 (by omega)
      obtain ⟨g6, c6, v6, hown⟩ := hv 6 (by omega)
      obtain ⟨p7, v7, hp7, k7⟩ := hv 7 (by omega)
      simp only [rcGood] at v0 v1 v3 v4
      simp only [List.take_succ_cons, List.take_zero, List.drop_succ_cons, List.drop_zero, putSeq, Act.put, List.setIfInBounds_toArray, List.set_cons_zero, List.set_cons_succ, v0, v1, v2, v3, v4, v5, v6, v7, Nat.reduceAdd]
      clear hv v0 v1 v2 v3 v4 v5 v6 v7 HI hz0 hz1 hz2 hbz
      have hsh2 := HC.out w2 hb2
      have hne : g6 ≠ p7 := ownBlkR hown rfl k7 (by decide)
      have hg6 := hown.lt g6 rfl
      obtain ⟨q0, q1, qf0, qf1⟩ := k7.two
      have ql := k7.lt
      clear HC
      obtain ⟨c0, c1, f0, f1⟩ := own2_cell hown hlt
      have hne' := hne.symm
      have hg2 := hg6.2
      have ho1 := own_setR (i := 0) (u := .slice (some ⟨g6, 0, none⟩) sn c6) hown k7 (by decide)
      have k7a := k7.set 0 (.slice (some ⟨g6, 0, none⟩) sn c6)
      have ho2 := own_setR (i := 1) (u := .slice ta tn tc) ho1 k7a (by decide)
      have k7b := k7a.set 1 (.slice ta tn tc)
      have ho3 := own2_set ho2 k 0 40000
      have k7c := (k7b.other (p := ⟨g6, k * 2, none⟩) hne' (.int .i64 0)).other (p := ⟨g6, k * 2 + 1, none⟩) hne' (.int .i64 40000)
      have hbW : Below wr.heap.size wr ((((w2.setCell ⟨p7, 0, none⟩ (.slice (some ⟨g6, 0, none⟩) sn c6)).setCell ⟨p7, 1, none⟩ (.slice ta tn tc)).setCell ⟨g6, k * 2, none⟩ (.int .i64 0)).setCell ⟨g6, k * 2 + 1, none⟩ (.int .i64 40000)) :=
        (((hb2.setCell (p := ⟨p7, 0, none⟩) hp7 _).setCell (p := ⟨p7, 1, none⟩) hp7 _).setCell (p := ⟨g6, k * 2, none⟩) hg6.1 _).setCell (p := ⟨g6, k * 2 + 1, none⟩) hg6.1 _
      have hB0 := HSH.out.be
      have HNI := hide (netin_ownR (H.out.below hB0) (hbW.mono (by omega)) ho3 (by rw [List.length_set]; exact HSL.out))
      have HSW := hide (HSH.out.kept hbW)
      go_upto_region 12 with (fail)
      clear ho1 k7a ho2 k7b ho3 hbW hown k7 hb2 hsh2 qf0 qf1 q0 q1 c0 c1 f0 f1 hne' hne hg2 hg6 hB0 n0 n1 ln ql
      simp only [List.setIfInBounds_toArray, List.set_cons_zero, List.set_cons_succ] at k7c
      generalize World.setCell (World.setCell (World.setCell (World.setCell w2 _ _) _ _) _ _) _ _ = W4 at *
      have HPS := hide (possible_any (withR n k) (some ⟨g6, 0, none⟩) ta sn c6 tn tc W4 HNI.out hs11 ht5 (withR_spw HN.out k))
      obtain ⟨q0, q1, _⟩ := k7c.two
      have ql := k7c.lt
      have hnb := HSW.out.kn.lt
      go_wp2_with fail
      refine HPS.out.mono ?_
      rintro e W5 ⟨rfl, hb5⟩
      have HS5 := hide (HSW.out.kept hb5)
      have hnb5 := HS5.out.kn.lt
      obtain ⟨n0, n1, _⟩ := HS5.out.kn.two
      clear HPS HNI HSW hb5 q0 q1 ql k7c hnb
      cases hfo : rPos (withR n k) with
      | true =>
        have HS := hide (rSusL_yes hfo)
        clear hfo
        generalize hm : (rSusL n k).length = m at *
        have HM := hide hm
        clear hm
        go_wp2_with (
          at_builtin
          refine wpList_append_lies _ rfl (.tmp 43) (.tmp 45) 38 rfl (w.heap.size + 1) 3 j0 (.int .i64 0) 1 8 under_ints HJ.out iz0 iz1 iz2 rfl (by decide) _ m (ints (rSusL n k)) rfl (HS5.out.ow.alloc _) ⟨W5.heap.size, 0, none⟩ 1 1 [.int .i64 (k : Int)] rfl rfl
            (World.news_of_block (cs := #[.int .i64 (k : Int)]) (t := 3) (fr := (0, 0)) (Blk.newAt (by simp) _ _)) (by intro u hu; simp at hu; subst hu; rfl) (by decide) (by unfold maxLen; omega) (by omega) (by simp; omega) _ rfl ?_
          intro g8 cap8 W6 ow6 gr6 at6 lt6)
        have hB6 : Below w.heap.size w W6 := below_own (HS5.out.be.alloc HS5.out.be.size _) (HS5.out.ow.alloc _) (Nat.le_succ _) (by simp; omega) gr6
        have kn6 : Blk W6 w.heap.size #[.slice (some ⟨sb, soff, none⟩) sn sc, .slice ta tn tc] 35 := (gr6.block _ (by simp; omega) (fun e => by have := (HS5.out.ow.lt _ e.symm).1; omega)).trans (HS5.out.kn.alloc _)
        go_roundw
        case rel => exact ⟨k + 1, by omega, by go_num, by rw [HS.out, List.length_append, HM.out]; exact ⟨kn6, (H.out.below hB6).rs, by rw [ints_append]; exact ow6, hB6⟩⟩
        case measure => simp [intOf]; omega
      | false =>
        have HS := hide (rSusL_no hfo)
        clear hfo
        go_wp2_with fail
        go_roundw
        case rel => exact ⟨k + 1, by omega, by go_num, by rw [HS.out]; exact HS5.out⟩
        case measure => simp [intOf]; omega
    · have hkn : k = sn := by omega
      rw [hkn] at hin
      have own' := Go.Joins.ownsRow_le hin.ow (Nat.le_succ w.heap.size)
      obtain ⟨va, cap, rfl, _, _⟩ := own_shape own'
      have hB := hin.be
      clear hkn hin HSH
      go_wp2_with fail
      refine bodyPost_ret (v := .tuple #[.slice va (rSusL n sn).length cap, .int .i64 0]) (by simp [results, Try.results37, go_sem]) rfl ⟨_, by rw [HF.out], by rw [HF.out]; exact own', hB⟩

end Go.Proofs.Ytlbhnicengolfaa

/-! ## ClaW: TotalClashes: the walk. -/
namespace Go.Proofs.Ytlbhnicengolfaa
open Go.RowKit
set_option linter.unusedVariables false
set_option linter.unusedSimpArgs false

theorem nar_pos {n : TNet} (h : NOk n) : narOk n.ts (sqs n.sp) = rPos n := by
  rw [Bool.eq_iff_iff, ok_iff h (sqs_len _)]
  exact (rPos_is h (nok_spok h)).symm
theorem rPos1_brk {n : TNet} (h : NOk n) {m : Nat} (h1 : 1 ≤ m) (h2 : m < 2 ^ n.ts.length) : rPos1 n m = true ↔ ((grpR n.ts (bitsK m n.ts.length) n.sp.length).2 = true → brkR n (grpR n.ts (bitsK m n.ts.length) n.sp.length).1 = false) := by
  unfold rPos1
  rw [req_grp h h1 h2]
  cases hy : (grpR n.ts (bitsK m n.ts.length) n.sp.length).2 with
  | false => simp
  | true =>
    rw [reK_brk (gl_ones h h1 h2 hy) _ (Nat.le_refl _)]
    unfold brkR
    generalize brkL (grpR n.ts (bitsK m n.ts.length) n.sp.length).1 (sqs n.sp) n.sp.length = b
    simp only [Bool.not_true, Bool.false_or, Bool.and_eq_true, decide_eq_true_eq, Bool.or_eq_false_iff, decide_eq_false_iff_not, true_implies]
    omega
theorem ord_bitsK : ∀ t : Fin 6, ∀ m : Fin 32, ordOk ((t : Nat) : Int) (-1) (bitsK m t) = 0 := by decide +kernel
theorem mem_grpUp2 {ts : List Tri} {sn m : Nat} (h1 : 1 ≤ m) (hg : (grpR ts (bitsK m ts.length) sn).2 = true) : ∀ {k}, m ≤ k → (bitsK m ts.length, (grpR ts (bitsK m ts.length) sn).1) ∈ grpUp ts sn k
  | 0, h => by omega
  | k + 1, h => by
    unfold grpUp
    rcases Nat.lt_or_ge m (k + 1) with h | h'
    · exact List.mem_append_left _ (mem_grpUp2 h1 hg (by omega))
    · obtain rfl : m = k + 1 := by omega
      refine List.mem_append_right _ ?_
      unfold grpOne
      rw [if_pos hg]
      exact List.mem_singleton.2 rfl
theorem two_pow5 {t : Nat} (h : t ≤ 5) : 2 ^ t ≤ 32 := by
  have : 2 ^ t ≤ 2 ^ 5 := Nat.pow_le_pow_right (by omega) h
  omega
/-- What Clash returns, by the reference. -/
theorem cla_cases (n : TNet) : ((claR n).2 ≠ 0 ∧ (claR n).1 = [] ∧ rPoss n = (false, (claR n).2)) ∨ (claR n = ([], 6) ∧ rPoss n = (true, 0)) ∨ ((claR n).2 = 0 ∧ rPoss n = (false, 0) ∧ verR n (claR n).1 = 0 ∧ (claR n).1.length ≤ 5) := by
  unfold rPoss
  by_cases hc : checkT n = 0
  · rw [if_neg (by simpa using hc)]
    have hn := nok_of_check hc
    have hl3 := hn.l3
    have h32 := two_pow5 hl3
    cases hp : rPos n with
    | true =>
      right; left
      refine ⟨?_, rfl⟩
      have hnone : (grpAll n).find? (fun x => brkR n x.2) = none := by
        rw [List.find?_eq_none]
        intro x hx
        obtain ⟨m, h1, h2, h3, rfl⟩ := mem_grpUp hx
        have hlt : m < 2 ^ n.ts.length := by have : 0 < 2 ^ n.ts.length := Nat.two_pow_pos _; omega
        have := (rPos1_brk hn h1 hlt).1 (rPosK_all.1 (show rPosK n (2 ^ n.ts.length) = true from hp) m h1 hlt) h3
        rw [this]; simp
      unfold claR
      rw [if_neg (by simpa using hc), hnone]
    | false =>
      right; right
      have hex : ∃ m, 1 ≤ m ∧ m < 2 ^ n.ts.length ∧ rPos1 n m = false := Classical.byContradiction fun hno => by
        have : rPos n = true := rPosK_all.2 fun m h1 h2 => by
          cases hm : rPos1 n m with
          | true => rfl
          | false => exact absurd ⟨m, h1, h2, hm⟩ hno
        rw [hp] at this; cases this
      obtain ⟨m, h1, h2, hm⟩ := hex
      have hb : (grpR n.ts (bitsK m n.ts.length) n.sp.length).2 = true ∧ brkR n (grpR n.ts (bitsK m n.ts.length) n.sp.length).1 = true := by
        have := rPos1_brk hn h1 h2
        rw [hm] at this
        refine Classical.byContradiction fun hno => ?_
        have h3 := this.2 fun h => by
          cases hb : brkR n (grpR n.ts (bitsK m n.ts.length) n.sp.length).1 with
          | false => rfl
          | true => exact absurd ⟨h, hb⟩ hno
        cases h3
      have hmem : (bitsK m n.ts.length, (grpR n.ts (bitsK m n.ts.length) n.sp.length).1) ∈ grpAll n := mem_grpUp2 h1 hb.1 (by omega)
      have hsome : ((grpAll n).find? (fun x => brkR n x.2)).isSome := by
        rw [List.find?_isSome]
        exact ⟨_, hmem, hb.2⟩
      obtain ⟨y, hy⟩ := Option.isSome_iff_exists.1 hsome
      have hyb : brkR n y.2 = true := by simpa using List.find?_some hy
      obtain ⟨m', g1, g2, g3, rfl⟩ := mem_grpUp (List.mem_of_find?_eq_some hy)
      have hlt' : m' < 2 ^ n.ts.length := by have : 0 < 2 ^ n.ts.length := Nat.two_pow_pos _; omega
      have hR : claR n = (bitsK m' n.ts.length, 0) := by
        unfold claR
        rw [if_neg (by simpa using hc), hy]
      have hord : ordOk n.ts.length (-1) (bitsK m' n.ts.length) = 0 := ord_bitsK ⟨n.ts.length, by omega⟩ ⟨m', by omega⟩
      have heq : eqR n (bitsK m' n.ts.length) = ((grpR n.ts (bitsK m' n.ts.length) n.sp.length).1, 0) := by
        unfold eqR
        rw [if_neg (by rw [hc]; simp), if_neg (bits_ne g1 hlt'), if_neg (by rw [hord]; simp), if_pos g3]
      rw [hR]
      refine ⟨rfl, rfl, ?_, by have := bitsK_len m' n.ts.length; dsimp only; omega⟩
      unfold verR
      dsimp only
      rw [heq, if_neg (by simp), if_neg (by dsimp only; rw [hyb]; simp)]
  · rw [if_pos hc]
    left
    have : claR n = ([], checkT n) := by unfold claR; rw [if_pos hc]
    rw [this]
    exact ⟨hc, rfl, rfl⟩
theorem rSus_is (n : TNet) : rSus n = susR n := by
  unfold rSus susR rPoss sqR
  by_cases hc : checkT n = 0
  · have hn := nok_of_check hc
    rw [if_neg (show ¬ checkT n ≠ 0 by simpa using hc), if_neg (show ¬ checkT n ≠ 0 by simpa using hc), nar_pos hn, rSusL_is hn]
    cases hp : rPos n with
    | true => simp
    | false => simp
  · have h13 := checkT_ne n
    rw [if_pos hc, if_pos hc]
    dsimp only
    rw [if_pos hc, if_neg hc, if_neg h13]
theorem claPost_row {R : List Int × Int} {w w' : World} {e : Ending} (h : claPost R w e w') (hz : R.2 ≠ 0 → R.1 = []) : ∃ a cap, e = .returned (.tuple #[.slice a R.1.length cap, .int .i64 R.2]) ∧ Row w' w'.heap.size a (ints R.1) ∧ Below w.heap.size w w' := by
  obtain ⟨v, h1, h2, h3, hb⟩ := h
  by_cases h0 : R.2 = 0
  · obtain ⟨b, cap, rfl, hr⟩ := h2 h0
    exact ⟨_, cap, h1, hr, hb⟩
  · have := h3 h0
    subst this
    rw [hz h0] at *
    exact ⟨none, 0, h1, .nil _ _ _, hb⟩
theorem susR_len (n : TNet) : (susR n).1.length ≤ 1000000000 := by
  unfold susR sqR
  by_cases hc : checkT n = 0
  · have hn := nok_of_check hc
    have h2 := hn.l2
    have := susL_len n n.sp.length
    rw [if_neg (show ¬ checkT n ≠ 0 by simpa using hc)]
    cases narOk n.ts (sqs n.sp) with
    | true => simp
    | false =>
      show (susL n n.sp.length).length ≤ 1000000000
      omega
  · rw [if_pos hc]
    dsimp only
    rw [if_neg hc, if_neg (checkT_ne n)]
    simp

set_option maxRecDepth 100000 in
set_option maxHeartbeats 8000000 in
theorem clashes_any (n : TNet) (sa ta : Option Addr) (sn sc tn tc : Nat) (w : World) (h : NetArg n sa ta sn tn tc w) :
    Calls Try.prog 6 #[netV sa ta sn sc tn tc] w fun e w' => e = .returned (.bool true) ∧ Below w.heap.size w w' := by
  have H := hide h
  have HLG := hide (fun W => large_any n sa ta sn sc tn tc W)
  have hk := Blk.new w #[.slice sa sn sc, .slice ta tn tc] 25
  have hb1 : Below w.heap.size w (w.alloc (.cells #[.slice sa sn sc, .slice ta tn tc] 25)) := (Below.refl _ _).alloc (Nat.le_refl _) _
  clear h
  go_enter Try.func6, Try.ntmps6
  by_cases hlg : (decide (40 < sn) || decide (40 < tn)) = true
  · rw [hlg] at HLG
    clear hlg
    go_wp2_with fail
    refine (HLG.out _).mono ?_
    rintro e W1 ⟨rfl, hb2⟩
    have hB := hb1.trans (hb2.mono hb1.size)
    go_wp2_with fail
    refine (works_any _).mono ?_
    rintro e W9 ⟨rfl, hb9⟩
    go_wp2_with fail
    go_ret
    exact ⟨rfl, hB.trans (hb9.mono hB.size)⟩
  have hs40 : ¬ 40 < sn := fun h => hlg (by simp [h])
  have ht40 : ¬ 40 < tn := fun h => hlg (by simp [h])
  have hlg' : (decide (40 < sn) || decide (40 < tn)) = false := by simpa using hlg
  rw [hlg'] at HLG
  have HN := hide (H.out.small hs40 ht40)
  have HT40 := hide (show tn ≤ 40 by omega)
  have HCC := hide (cla_cases n)
  have HSI := hide (rSus_is n)
  have HSL := hide (susR_len n)
  clear hlg hlg' hs40 ht40 H
  go_wp2_with fail
  refine (HLG.out _).mono ?_
  rintro e W1 ⟨rfl, hb2⟩
  have hB := hb1.trans (hb2.mono hb1.size)
  have hk1 := hk.kept hb2
  clear hb1 hb2 hk
  obtain ⟨n0, n1, _⟩ := hk1.two
  have ln0 := hk1.lt
  go_wp2_with fail
  refine (given_any n sa ta sn sc tn tc W1 (HN.out.below hB) HT40.out).mono ?_
  rintro e W2 ⟨a', tc', rfl, hn2, hb2⟩
  obtain ⟨V3, hV3⟩ : ∃ V3, W2.alloc (.cells #[.slice sa sn sc, .slice a' tn tc'] 35) = V3 := ⟨_, rfl⟩
  have hb3 : Below W2.heap.size W2 V3 := by rw [← hV3]; exact (Below.refl _ _).alloc (Nat.le_refl _) _
  have k3 : Blk V3 W2.heap.size #[.slice sa sn sc, .slice a' tn tc'] 35 := by rw [← hV3]; exact Blk.new _ _ _
  have hk2 := (hk1.kept hb2).kept hb3
  have hB2 := hB.trans (hb2.mono hB.size)
  have hB3 := hB2.trans (hb3.mono hB2.size)
  have hnr := hn2.below hb3
  clear hk1 n0 n1 ln0 hB hb2 hn2 hb3 hB2 HLG
  obtain ⟨n0, n1, _⟩ := hk2.two
  have ln0 := hk2.lt
  obtain ⟨m0, m1, _⟩ := k3.two
  have lm0 := k3.lt
  go_wp2_with fail
  refine (clash_any n sa ta sn sc tn tc _ (HN.out.below hB3) (fun h => nz_all (nok_of_check h))).mono ?_
  rintro e W4 h4
  obtain ⟨x, xc, rfl, hx, hb4⟩ := claPost_row h4 (fun h => by
    rcases HCC.out with h' | h' | h'
    · exact h'.2.1
    · rw [h'.1]
    · exact absurd h'.1 h)
  have HX := hide hx
  have hk4 := hk2.kept hb4
  have k4 := k3.kept hb4
  have hB4 := hB3.trans (hb4.mono hB3.size)
  have hn4 := hnr.below hb4
  clear h4 hk2 k3 hnr n0 n1 ln0 m0 m1 lm0 hB3 hb4 hx hV3
  obtain ⟨n0, n1, _⟩ := hk4.two
  have ln0 := hk4.lt
  obtain ⟨m0, m1, _⟩ := k4.two
  have lm0 := k4.lt
  go_wp2_with fail
  refine (refPoss_any n sa a' sn sc tn tc' _ hn4).mono ?_
  rintro e W5 ⟨rfl, hb5⟩
  have hk5 := hk4.kept hb5
  have k5 := k4.kept hb5
  have hB5 := hB4.trans (hb5.mono hB4.size)
  have hn5 := hn4.below hb5
  have HX5 := hide (row_keep HX.out hb5)
  clear hk4 k4 hn4 n0 n1 ln0 m0 m1 lm0 hB4 hb5 HX
  obtain ⟨n0, n1, _⟩ := hk5.two
  have ln0 := hk5.lt
  obtain ⟨m0, m1, _⟩ := k5.two
  have lm0 := k5.lt
  go_wp2_with fail
  refine (suspects_any n sa ta sn sc tn tc _ (HN.out.below hB5)).mono ?_
  rintro e W6 ⟨v6, rfl, ho6, hb6⟩
  obtain ⟨s6, c6, rfl, hr6⟩ := own_row ho6
  have HR6 := hide hr6
  have hk6 := hk5.kept hb6
  have k6 := k5.kept hb6
  have hB6 := hB5.trans (hb6.mono hB5.size)
  have hn6 := hn5.below hb6
  have HX6 := hide (row_keep HX5.out hb6)
  clear hk5 k5 hn5 n0 n1 ln0 m0 m1 lm0 hB5 hb6 HX5 ho6 hr6
  obtain ⟨m0, m1, _⟩ := k6.two
  have lm0 := k6.lt
  go_wp2_with fail
  refine (refSus_any n sa a' sn sc tn tc' _ hn6).mono ?_
  rintro e W7 ⟨v7, rfl, ho7, hb7⟩
  rw [HSI.out] at ho7 ⊢
  obtain ⟨s7, c7, rfl, hr7⟩ := own_row ho7
  have HR7 := hide hr7
  have hR6 := row_keep HR6.out hb7
  have k7 := k6.kept hb7
  have hB7 := hB6.trans (hb7.mono hB6.size)
  have HN7 := hide (hn6.below hb7)
  have HX7 := hide (row_keep HX6.out hb7)
  have HNUM := hide (numbers_any (susR n).1 (susR n).1 s6 s7 (susR n).1.length c6 (susR n).1.length c7 _ _ W7 rfl rfl HSL.out HSL.out hR6 HR7.out)
  rw [decide_eq_true (rfl : (susR n).1 = (susR n).1)] at HNUM
  clear hk6 k6 hn6 m0 m1 lm0 hB6 hb7 HX6 ho7 hr7 hR6 HR7 HR6 HSI HSL
  generalize (susR n).1.length = sl at *
  generalize (susR n).2 = G at *
  have dG : (G != G) = false := by simp
  have HVE := hide (fun (W : World) (hb : Below W7.heap.size W7 W) => refVer_any n (claR n).1 sa a' x sn sc tn tc' (claR n).1.length xc W (HN7.out.below hb) rfl)
  rcases HCC.out with hc | hc | hc
  · obtain ⟨hE, hl, hP⟩ := hc
    rw [hP, hl] at *
    clear hP hl HCC HVE
    generalize (claR n).2 = E at *
    have d0 : (E == 0) = false := by rw [beq_eq_false_iff_ne]; exact hE
    have d1 : (E != E) = false := by simp
    have d2 : (E != 0) = true := by rw [bne_iff_ne]; exact hE
    clear hE
    dsimp only
    go_wp2_with fail
    refine HNUM.out.mono ?_
    rintro e W8 ⟨rfl, hb8⟩
    have hB8 := hB7.trans (hb8.mono hB7.size)
    clear HNUM hb8
    go_wp2_with fail
    refine (works_any _).mono ?_
    rintro e W9 ⟨rfl, hb9⟩
    go_wp2_with fail
    go_ret
    exact ⟨rfl, hB8.trans (hb9.mono hB8.size)⟩
  · obtain ⟨hE, hP⟩ := hc
    rw [hP, hE] at *
    clear hP hE HCC HVE
    dsimp only
    go_wp2_with fail
    refine HNUM.out.mono ?_
    rintro e W8 ⟨rfl, hb8⟩
    have hB8 := hB7.trans (hb8.mono hB7.size)
    clear HNUM hb8
    go_wp2_with fail
    refine (works_any _).mono ?_
    rintro e W9 ⟨rfl, hb9⟩
    go_wp2_with fail
    go_ret
    exact ⟨rfl, hB8.trans (hb9.mono hB8.size)⟩
  · obtain ⟨hE, hP, hV, hl5⟩ := hc
    have HV := hide hV
    have HL5 := hide hl5
    rw [hP, hE] at *
    clear hP hE HCC hV hl5
    generalize (claR n).1 = L at *
    dsimp only
    go_wp2_with fail
    refine HNUM.out.mono ?_
    rintro e W8 ⟨rfl, hb8⟩
    have hB8 := hB7.trans (hb8.mono hB7.size)
    have HX8 := hide (row_keep HX7.out hb8)
    have k8 := k7.kept hb8
    have HVER := hide (HVE.out W8 hb8 (by have := HL5.out; omega) HX8.out)
    rw [HV.out] at HVER
    obtain ⟨m0, m1, _⟩ := k8.two
    have lm0 := k8.lt
    clear HNUM hb8 HVE k7 k8
    go_wp2_with fail
    refine HVER.out.mono ?_
    rintro e W9 ⟨rfl, hb9⟩
    have hB9 := hB8.trans (hb9.mono hB8.size)
    clear HVER hb9
    go_wp2_with fail
    refine (works_any _).mono ?_
    rintro e W10 ⟨rfl, hb10⟩
    go_wp2_with fail
    go_ret
    exact ⟨rfl, hB9.trans (hb10.mono hB9.size)⟩

end Go.Proofs.Ytlbhnicengolfaa
