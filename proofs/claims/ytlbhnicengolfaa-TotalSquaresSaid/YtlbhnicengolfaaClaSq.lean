/-
  The reference of total: possible, Possible. The reference of total: Suspects. TotalClashes: the walk. The reference of total: Squares. The reference of total: Lengths. TotalSquares: Holds of the reference, and the walk.
-/
import Derived.Test.YtlbhnicengolfaaFarA
import Derived.Test.YtlbhnicengolfaaRootsW
import Derived.Test.YtlbhnicengolfaaLenSus
import Derived.Test.YtlbhnicengolfaaLawW
/-! ## ClaL: The reference of total: possible, Possible. The reference of total: Suspects. TotalClashes: the walk. -/
/-! ## RefP: The reference of total: possible, Possible. -/
namespace Go.Proofs.Ytlbhnicengolfaa
open Go.RowKit
set_option linter.unusedVariables false
set_option linter.unusedSimpArgs false

theorem rEq_len {ts : List Tri} {N m : Nat} (h : (rEq ts N m).2 = true) : (rEq ts N m).1.length = N := by
  unfold rEq at *
  split at h
  · cases h
  · rename_i hs
    rw [if_neg hs]
    simp
theorem pow5 {tn : Nat} (h : tn ≤ 5) : ∃ N2 : Nat, N2 = 2 ^ tn ∧ wrap64 (2 ^ tn) = (N2 : Int) ∧ N2 ≤ 32 ∧ 1 ≤ N2 := by
  have : tn = 0 ∨ tn = 1 ∨ tn = 2 ∨ tn = 3 ∨ tn = 4 ∨ tn = 5 := by omega
  rcases this with rfl | rfl | rfl | rfl | rfl | rfl <;> exact ⟨_, rfl, by decide +kernel, by decide, by decide⟩
theorem rPosK_yes {n : TNet} {m : Nat} (h1 : 1 ≤ m) (h : rPosK n m = true) (hm : rPos1 n m = true) : rPosK n (m + 1) = true := by
  unfold rPosK
  rw [h, hm]; simp
theorem rPos_no {n : TNet} {m : Nat} (h1 : 1 ≤ m) (h2 : m < 2 ^ n.ts.length) (hm : rPos1 n m = false) : rPos n = false := by
  cases h : rPos n with
  | false => rfl
  | true =>
    have := rPosK_all.1 (show rPosK n (2 ^ n.ts.length) = true from h) m h1 h2
    rw [hm] at this; cases this

set_option maxRecDepth 100000 in
set_option maxHeartbeats 8000000 in
theorem possible_any (n : TNet) (sa ta : Option Addr) (sn sc tn tc : Nat) (w : World) (h : NetIn n sa ta sn tn tc w) (hs11 : sn ≤ 11) (ht5 : tn ≤ 5) (hw : SpW n.sp) :
    Calls Try.prog 61 #[netV sa ta sn sc tn tc] w fun e w' => e = .returned (.bool (rPos n)) ∧ Below w.heap.size w w' := by
  have H := hide h
  have HSP := hide hw
  obtain ⟨N2, hN2, hsh, hN32, hN1⟩ := pow5 ht5
  have HN2 := hide hN2
  have hb1 : Below w.heap.size w (w.alloc (.cells #[.slice sa sn sc, .slice ta tn tc] 35)) := (Below.refl _ _).alloc (Nat.le_refl _) _
  have kn := Blk.new w #[.slice sa sn sc, .slice ta tn tc] 35
  clear h hN2 hw
  go_enter Try.func61, Try.ntmps61
  go_wp2_with fail
  go_loopw [3] (fun ix wr => ∃ m : Nat, 1 ≤ m ∧ m ≤ N2 ∧ ix = .int .i64 (m : Int) ∧ rPosK n m = true ∧ Below w.heap.size w wr ∧ Blk wr w.heap.size #[.slice sa sn sc, .slice ta tn tc] 35) (fun ix _ => N2 - (intOf ix).toNat)
  case atStart => exact ⟨1, Nat.le_refl _, hN1, rfl, by simp [rPosK], hb1, kn⟩
  case round =>
    clear hb1 kn
    obtain ⟨m, hm1, hm2, rfl, hall, hB, kn⟩ := hrel
    obtain ⟨n0, n1, _⟩ := kn.two
    have ln := kn.lt
    by_cases hlt : m < N2
    · have HQ := hide (refEq_any n m sa ta sn sc tn tc wr (H.out.below hB) hs11 ht5 (by omega))
      have HL := hide (fun h => rEq_len (ts := n.ts) (N := n.sp.length) (m := m) h)
      have HP1 : Hid (rPos1 n m = (!(rEq n.ts n.sp.length m).2 || (decide ((reK n.sp (rEq n.ts n.sp.length m).1 (-1) n.sp.length).1 ≤ 0) && decide (0 ≤ (reK n.sp (rEq n.ts n.sp.length m).1 (-1) n.sp.length).2)))) := hide rfl
      have HLT := hide (show m < 2 ^ n.ts.length by rw [← H.out.htn, ← HN2.out]; exact hlt)
      have HALL := hide hall
      rw [← H.out.hsn] at HL HP1
      have dlt : decide ((m : Int) < (N2 : Int)) = true := decide_eq_true (by omega)
      clear hall
      generalize rEq n.ts sn m = R at *
      obtain ⟨cs, b⟩ := R
      dsimp only at HL HP1
      go_wp2_with fail
      simp only [hsh]
      clear hsh dlt
      refine HQ.out.mono ?_
      rintro e W2 ⟨v, rfl, hv, hb2⟩
      dsimp only at hv
      have kn2 := kn.kept hb2
      have hB2 := hB.trans (hb2.mono hB.size)
      clear HQ hb2 hB kn n0 n1 ln
      cases b with
      | false =>
        have HX := hide (rPosK_yes hm1 HALL.out (by rw [HP1.out]; rfl))
        clear hv HP1 HALL
        go_wp2_with fail
        exact ⟨⟨m + 1, by omega, by omega, by go_num, HX.out, hB2, kn2⟩, by simp [intOf]; omega⟩
      | true =>
        obtain ⟨g, rfl, hgs, hbk⟩ := hv rfl
        have hlen := HL.out rfl
        have hg2 := hbk.lt
        have HRE := hide (reach_any n cs (-1) sa (some ⟨g, 0, none⟩) (.slice ta tn tc) sn sc sn W2 H.out.hsn hs11 HSP.out (H.out.below hB2).rs hlen ((row_of_heap hbk (by rw [List.toList_toArray, List.take_length])).mono (by omega)))
        obtain ⟨n0, n1, _⟩ := kn2.two
        have ln := kn2.lt
        clear hv hlen hbk hgs HL
        have HP : Hid (rPos1 n m = (decide ((reK n.sp cs (-1) sn).1 ≤ 0) && decide (0 ≤ (reK n.sp cs (-1) sn).2))) := hide (by rw [HP1.out]; rfl)
        clear HP1
        generalize reK n.sp cs (-1) sn = S at *
        obtain ⟨x, y⟩ := S
        dsimp only at HP HRE
        go_wp2_with fail
        refine HRE.out.mono ?_
        rintro e W3 ⟨rfl, hb3⟩
        have hB3 := hB2.trans (hb3.mono hB2.size)
        obtain ⟨V3, hV3⟩ : ∃ V3, W3.alloc (.cells #[.int .i64 x, .int .i64 y] 53) = V3 := ⟨_, rfl⟩
        have hB4 : Below w.heap.size w V3 := by rw [← hV3]; exact hB3.alloc hB3.size _
        have k3 : Blk V3 W3.heap.size #[.int .i64 x, .int .i64 y] 53 := by rw [← hV3]; exact Blk.new _ _ _
        have kn3 : Blk V3 w.heap.size #[.slice sa sn sc, .slice ta tn tc] 35 := by rw [← hV3]; exact (kn2.kept hb3).alloc _
        obtain ⟨t0, t1, _⟩ := k3.two
        have lt := k3.lt
        clear HRE k3 n0 n1 ln hb3 hB3 hB2 kn2
        by_cases hx : 0 < x
        · have d1 : decide (0 < x) = true := decide_eq_true hx
          have HF := hide (rPos_no hm1 HLT.out (by rw [HP.out, decide_eq_false (by omega : ¬ x ≤ 0)]; rfl))
          clear hx
          go_wp2_with fail
          exact bodyPost_ret (v := .bool false) (by simp [results, Try.results61, go_sem]) rfl ⟨by rw [HF.out], hB4⟩
        · have d1 : decide (0 < x) = false := decide_eq_false hx
          by_cases hy : y < 0
          · have d2 : decide (y < 0) = true := decide_eq_true hy
            have HF := hide (rPos_no hm1 HLT.out (by rw [HP.out, decide_eq_false (by omega : ¬ 0 ≤ y), Bool.and_false]))
            clear hx hy
            go_wp2_with fail
            exact bodyPost_ret (v := .bool false) (by simp [results, Try.results61, go_sem]) rfl ⟨by rw [HF.out], hB4⟩
          · have d2 : decide (y < 0) = false := decide_eq_false hy
            have HX := hide (rPosK_yes hm1 HALL.out (by rw [HP.out, decide_eq_true (by omega : x ≤ 0), decide_eq_true (by omega : 0 ≤ y)]; rfl))
            clear hx hy
            go_wp2_with fail
            exact ⟨⟨m + 1, by omega, by omega, by go_num, HX.out, hB4, kn3⟩, by simp [intOf]; omega⟩
    · have hme : m = N2 := by omega
      have HF : Hid (rPos n = true) := hide (by unfold rPos; rw [← H.out.htn, ← HN2.out, ← hme]; exact hall)
      have dlt : decide ((m : Int) < (N2 : Int)) = false := decide_eq_false (by omega)
      clear hme hall
      go_wp2_with fail
      simp only [hsh]
      exact bodyPost_ret (v := .bool true) (by simp [results, Try.results61, go_sem]) rfl ⟨by rw [HF.out], hB⟩

/-- What Possible returns. -/
def rPoss (n : TNet) : Bool × Int := if checkT n ≠ 0 then (false, checkT n) else (rPos n, 0)
set_option maxRecDepth 100000 in
set_option maxHeartbeats 8000000 in
theorem refPoss_any (n : TNet) (sa ta : Option Addr) (sn sc tn tc : Nat) (w : World) (h : NetIn n sa ta sn tn tc w) :
    Calls Try.prog 35 #[netV sa ta sn sc tn tc] w fun e w' => e = .returned (.tuple #[.bool (rPoss n).1, .int .i64 (rPoss n).2]) ∧ Below w.heap.size w w' := by
  have H := hide h
  have HR : Hid (rPoss n = if checkT n ≠ 0 then (false, checkT n) else (rPos n, 0)) := hide rfl
  have hb1 : Below w.heap.size w (w.alloc (.cells #[.slice sa sn sc, .slice ta tn tc] 35)) := (Below.refl _ _).alloc (Nat.le_refl _) _
  have kn := Blk.new w #[.slice sa sn sc, .slice ta tn tc] 35
  have HCK := hide (refCheck_any n sa ta sn sc tn tc _ (h.below hb1))
  have HNK := hide (fun h => nok_of_check (n := n) h)
  rw [rCheck_eq] at HCK
  obtain ⟨n0, n1, _⟩ := kn.two
  have ln := kn.lt
  clear h
  generalize checkT n = E at *
  go_enter Try.func35, Try.ntmps35
  go_wp2_with fail
  refine HCK.out.mono ?_
  rintro e W2 ⟨rfl, hb2⟩
  have kn2 := kn.kept hb2
  have hB2 := hb1.trans (hb2.mono hb1.size)
  clear hb1 hb2 kn HCK n0 n1 ln
  obtain ⟨n0, n1, _⟩ := kn2.two
  have ln := kn2.lt
  by_cases h0 : E = 0
  · have hn := HNK.out h0
    have HPO := hide (possible_any n sa ta sn sc tn tc W2 (H.out.below hB2) (by have := H.out.hsn; have := hn.l2; omega) (by have := H.out.htn; have := hn.l3; omega) (nok_spw hn))
    have HF : Hid (rPoss n = (rPos n, 0)) := hide (by rw [HR.out, if_neg (by simpa using h0)])
    have d0 : (E != 0) = false := by rw [h0]; rfl
    clear h0 hn HR
    go_wp2_with fail
    refine HPO.out.mono ?_
    rintro e W3 ⟨rfl, hb3⟩
    go_wp2_with fail
    exact bodyPost_ret (v := .tuple #[.bool (rPos n), .int .i64 0]) (by simp [results, Try.results35, go_sem]) rfl ⟨by rw [HF.out], hB2.trans (hb3.mono hB2.size)⟩
  · have HF : Hid (rPoss n = (false, E)) := hide (by rw [HR.out, if_pos h0])
    have d0 : (E != 0) = true := by rw [bne_iff_ne]; exact h0
    clear h0
    go_wp2_with fail
    exact bodyPost_ret (v := .tuple #[.bool false, .int .i64 E]) (by simp [results, Try.results35, go_sem]) rfl ⟨by rw [HF.out], hB2⟩

end Go.Proofs.Ytlbhnicengolfaa

/-! ## RefSu: The reference of total: Suspects. -/
namespace Go.Proofs.Ytlbhnicengolfaa
open Go.RowKit
set_option linter.unusedVariables false
set_option linter.unusedSimpArgs false

/-! ### which quantities are suspect -/
def withR (n : TNet) (q : Nat) : TNet := ⟨n.sp.set q (0, 40000), n.ts⟩
theorem sqs_withR (n : TNet) (q : Nat) : sqs (withR n q).sp = (sqs n.sp).set q (0, 1600000000) := by
  unfold withR
  rw [sqs_set]
  rfl
theorem sq_big {n : TNet} (h : NOk n) {p : Nat} (hp : p < n.sp.length) : 0 ≤ ((sqs n.sp).getD p (0, 0)).1 ∧ ((sqs n.sp).getD p (0, 0)).1 ≤ ((sqs n.sp).getD p (0, 0)).2 ∧ ((sqs n.sp).getD p (0, 0)).2 ≤ 100000000 := by
  have := h.sp p hp
  rw [sqs_at hp]
  dsimp only
  have a := sq_mono this.1 this.2.1
  have b := sq_mono (a := his n.sp p) (b := 10000) (by omega) this.2.2
  have c := Int.mul_nonneg this.1 this.1
  omega
theorem setS_get {L : List Sp} {q p : Nat} (v : Sp) (hq : q < L.length) : (L.set q v).getD p (0, 0) = if p = q then v else L.getD p (0, 0) := set_getDR L q p v (0, 0) hq
theorem free_is {n : TNet} (h : NOk n) {q : Nat} (hq : q < n.sp.length) : rPos (withR n q) = freeOk n q := by
  have hlen := sqs_len n.sp
  have hs : SpOk n (withR n q).sp := ⟨by unfold withR; simp, fun p => by
    unfold fnS
    by_cases h0 : 0 ≤ p
    · rw [if_pos h0, sqs_withR]
      by_cases hp : p < (n.sp.length : Int)
      · unfold spA
        rw [setS_get _ (by omega)]
        split
        · decide
        · exact (sq_big h (p := p.toNat) (by omega)).2.1
      · rw [spA_out (by rw [List.length_set]; omega)]; exact Int.le_refl _
    · rw [if_neg h0]; exact Int.le_refl _⟩
  have e1 : rPos (withR n q) = true ↔ ∃ x, Tru n.ts (sqs (withR n q).sp) x := rPos_is h hs
  have e2 : freeOk n q = true ↔ ∃ x, Tru n.ts ((sqs n.sp).set q (0, 1125899906842624)) x := ok_iff h (by rw [List.length_set, hlen])
  rw [sqs_withR] at e1
  have key : (∃ x, Tru n.ts ((sqs n.sp).set q (0, 1600000000)) x) ↔ ∃ x, Tru n.ts ((sqs n.sp).set q (0, 1125899906842624)) x := by
    have hat : ∀ (v : Sp) (x : Int → Int), Tru n.ts ((sqs n.sp).set q v) x → InS v (x q) ∧ ∀ p : Nat, p < n.sp.length → p ≠ q → InS ((sqs n.sp).getD p (0, 0)) (x p) := fun v x hx => by
      have hg : ∀ p : Nat, p < n.sp.length → InS (((sqs n.sp).set q v).getD p (0, 0)) (x p) := fun p hp => by
        have := hx.sp (p : Int) (by omega) (by rw [List.length_set]; omega)
        rwa [spA_nat] at this
      refine ⟨?_, fun p hp hne => ?_⟩
      · have := hg q hq
        rwa [setS_get _ (by omega), if_pos rfl] at this
      · have := hg p hp
        rwa [setS_get _ (by omega), if_neg hne] at this
    have hmk : ∀ (v : Sp) (x : Int → Int), InS v (x q) → (∀ p : Nat, p < n.sp.length → p ≠ q → InS ((sqs n.sp).getD p (0, 0)) (x p)) → (∀ t ∈ n.ts, Hl x t) → Tru n.ts ((sqs n.sp).set q v) x := fun v x h1 h2 h3 => ⟨fun p h0 hp => by
      rw [List.length_set] at hp
      obtain ⟨k, rfl⟩ : ∃ k : Nat, p = (k : Int) := ⟨p.toNat, by omega⟩
      rw [spA_nat, setS_get _ (by omega)]
      split
      · rename_i e; subst e; exact h1
      · rename_i e; exact h2 k (by omega) e, h3⟩
    constructor
    · rintro ⟨x, hx⟩
      obtain ⟨a, b⟩ := hat _ x hx
      exact ⟨x, hmk _ x (by unfold InS at a ⊢; dsimp only at a ⊢; omega) b hx.tr⟩
    · rintro ⟨x, hx⟩
      obtain ⟨a, b⟩ := hat _ x hx
      by_cases hm : ∃ t ∈ n.ts, (q : Int) ∈ cor t
      · obtain ⟨t, ht, hqt⟩ := hm
        refine ⟨x, hmk _ x ?_ b hx.tr⟩
        have hin := nok_in h t ht
        have hd := (nok_fr h).dis t ht
        have hb : ∀ o ∈ cor t, o ≠ (q : Int) → 0 ≤ x o ∧ x o ≤ 100000000 := fun o ho hne => by
          have h0 := hin o ho
          have hk := b o.toNat (by omega) (by omega)
          have hs := sq_big h (p := o.toNat) (by omega)
          rw [show ((o.toNat : Nat) : Int) = o by omega] at hk
          unfold InS at hk
          omega
        have hh := hx.tr t ht
        unfold Hl at hh
        unfold InS at a ⊢
        dsimp only at a ⊢
        have ha := hb t.1 (by simp [cor])
        have hb2 := hb t.2.1 (by simp [cor])
        have hw := hb t.2.2 (by simp [cor])
        simp only [cor, List.mem_cons, List.not_mem_nil, or_false] at hqt
        obtain ⟨d1, d2, d3⟩ := hd
        rcases hqt with e | e | e
        · rw [← e] at hh d1 d2
          have := hb2 (fun h => d1 h.symm)
          have := hw (fun h => d2 h.symm)
          omega
        · rw [← e] at hh d1 d3
          have := ha d1
          have := hw (fun h => d3 h.symm)
          omega
        · rw [← e] at hh d2 d3
          have := ha d2
          have := hb2 d3
          omega
      · refine ⟨fun p => if p = (q : Int) then 0 else x p, hmk _ _ ?_ (fun p hp hne => ?_) fun t ht => ?_⟩
        · rw [if_pos rfl]; exact ⟨by decide, by decide⟩
        · rw [if_neg (by omega)]; exact b p hp hne
        · have hno : ∀ o ∈ cor t, o ≠ (q : Int) := fun o ho e => hm ⟨t, ht, by rw [← e]; exact ho⟩
          unfold Hl
          dsimp only
          rw [if_neg (hno _ (by simp [cor])), if_neg (hno _ (by simp [cor])), if_neg (hno _ (by simp [cor]))]
          exact hx.tr t ht
  rw [Bool.eq_iff_iff, e1, e2]
  exact key
def rSusL (n : TNet) (k : Nat) : List Int := ((List.range k).filter fun q => rPos (withR n q)).map fun q : Nat => (q : Int)
theorem rSusL_is {n : TNet} (h : NOk n) : rSusL n n.sp.length = susL n n.sp.length := by
  unfold rSusL susL
  congr 1
  refine List.filter_congr fun q hq => ?_
  exact free_is h (List.mem_range.1 hq)
theorem rSusL_yes {n : TNet} {k : Nat} (h : rPos (withR n k) = true) : rSusL n (k + 1) = rSusL n k ++ [(k : Int)] := by simp [rSusL, List.range_succ, List.filter_append, h]
theorem rSusL_no {n : TNet} {k : Nat} (h : rPos (withR n k) = false) : rSusL n (k + 1) = rSusL n k := by simp [rSusL, List.range_succ, List.filter_append, h]
theorem rSusL_len (n : TNet) (k : Nat) : (rSusL n k).length ≤ k := by
  unfold rSusL
  rw [List.length_map]
  exact Nat.le_trans (List.length_filter_le _ _) (by simp)
theorem withR_spw {n : TNet} (h : NOk n) (q : Nat) : SpW (withR n q).sp := fun k hk => by
  unfold withR at hk ⊢
  dsimp only at hk ⊢
  rw [List.length_set] at hk
  have := h.sp k hk
  by_cases hq : q < n.sp.length
  · obtain ⟨a, b⟩ := los_set hq (0, 40000) k
    rw [a, b]
    split
    · decide
    · omega
  · rw [List.set_eq_of_length_le (by omega)]; omega
/-- What the reference's Suspects returns. -/
def rSus (n : TNet) : List Int × Int := if (rPoss n).2 ≠ 0 then ([], (rPoss n).2) else if (rPoss n).1 = true then ([], 6) else (rSusL n n.sp.length, 0)

/-! ### the copied net -/
theorem ownBlkR {W : World} {B k n s g : Nat} {e t : TypeId} {v : Value} {xs : List Value} {cs : Array Value} (h : W.ownsRow B e s v n xs) (hv : v.ownBlock = some g) (hk : Blk W k cs t) (hne : e ≠ t) : g ≠ k := by
  rintro rfl
  rcases h.2 with ⟨rfl, _⟩ | ⟨g', cp, cur, rfl, _, hc, _⟩
  · cases hv
  · cases hv
    rw [show W.heap[_]? = _ from hk] at hc
    injection hc with hc
    injection hc with _ h2 _
    exact hne h2.symm
theorem own_setR {W : World} {B n s k i : Nat} {e t : TypeId} {v u : Value} {xs : List Value} {cs : Array Value} (h : W.ownsRow B e s v n xs) (hk : Blk W k cs t) (hne : e ≠ t) : (W.setCell ⟨k, i, none⟩ u).ownsRow B e s v n xs :=
  h.kept (row := some k) (own2_grown _ _ _ _) (by
    cases hv : v.ownBlock with
    | none => exact .inl rfl
    | some j => exact .inr fun e => ownBlkR h hv hk hne (by injection e))
def rcNil (v : Value) : Prop := ∃ b, v = .slice (some ⟨b, 0, none⟩) 0 0
def rcOwn (B N : Nat) (sp : List Sp) (w : World) (v : Value) : Prop := ∃ g c, v = .slice (some ⟨g, 0, none⟩) N c ∧ w.ownsRow B 53 2 (.slice (some ⟨g, 0, none⟩) N c) N (spans sp)
def rcAgg (B N : Nat) (sp : List Sp) (tv : Value) (w : World) (v : Value) : Prop := ∃ g c, v = .agg #[.slice (some ⟨g, 0, none⟩) N c, tv] ∧ w.ownsRow B 53 2 (.slice (some ⟨g, 0, none⟩) N c) N (spans sp)
def rcBox (B : Nat) (w : World) (v : Value) : Prop := ∃ p, v = .pointer (some ⟨p, 0, none⟩) ∧ B ≤ p ∧ Blk w p #[.slice none 0 0, .slice none 0 0] 35
theorem rcOwn_below {B N : Nat} {sp : List Sp} {w w' : World} {v : Value} (h : rcOwn B N sp w v) (hb : Below w.heap.size w w') : rcOwn B N sp w' v := by
  obtain ⟨g, c, e, ho⟩ := h
  exact ⟨g, c, e, own_kept ho hb⟩
theorem rcAgg_below {B N : Nat} {sp : List Sp} {tv : Value} {w w' : World} {v : Value} (h : rcAgg B N sp tv w v) (hb : Below w.heap.size w w') : rcAgg B N sp tv w' v := by
  obtain ⟨g, c, e, ho⟩ := h
  exact ⟨g, c, e, own_kept ho hb⟩
theorem rcBox_below {B : Nat} {w w' : World} {v : Value} (h : rcBox B w v) (hb : Below w.heap.size w w') : rcBox B w' v := by
  obtain ⟨p, e, hp, hk⟩ := h
  exact ⟨p, e, hp, hk.kept hb⟩
def rcGood (nb B N : Nat) (sv tv : Value) (sp : List Sp) : Nat → World → Value → Prop
  | 0, _, v => v = .pointer (some ⟨nb, 1, none⟩)
  | 1, _, v => v = tv
  | 2, _, v => rcNil v
  | 3, _, v => v = .pointer (some ⟨nb, 0, none⟩)
  | 4, _, v => v = sv
  | 5, w, v => (rcOwn B N sp) w v
  | 6, w, v => (rcAgg B N sp tv) w v
  | 7, w, v => (rcBox B) w v
  | _, _, v => v = .bool true
theorem rcGood_below {nb B N : Nat} {sv tv : Value} {sp : List Sp} (i : Nat) (w w' : World) (v : Value) (h : (rcGood nb B N sv tv sp) i w v) (hb : Below w.heap.size w w') : (rcGood nb B N sv tv sp) i w' v := by
  unfold rcGood at h
  split at h <;> first | exact rcOwn_below h hb | exact rcAgg_below h hb | exact rcBox_below h hb | exact h | (unfold rcGood; split <;> first | exact h | (exfalso; simp_all))
theorem netin_ownR {n : TNet} {sa ta : Option Addr} {N T tcap : Nat} {w W : World} (h : NetIn n sa ta N T tcap w) (hb : Below w.heap.size w W) {B g c : Nat} {sp' : List Sp} (ho : W.ownsRow B 53 2 (.slice (some ⟨g, 0, none⟩) N c) N (spans sp')) (hl : sp'.length = N) : NetIn ⟨sp', n.ts⟩ (some ⟨g, 0, none⟩) ta N T tcap W :=
  have h' := h.below hb
  ⟨hl.symm, h'.htn, h'.htc, h'.htc2, h'.hl, h'.hl2, own2_row ho, h'.rt⟩
structure RsIn (w : World) (n : TNet) (sa ta : Option Addr) (sn sc tn tc : Nat) (v : Value) (m : Nat) (xs : List Int) (wr : World) : Prop where
  kn : Blk wr w.heap.size #[.slice sa sn sc, .slice ta tn tc] 35
  rs : Row wr wr.heap.size sa (spans n.sp)
  ow : wr.ownsRow (w.heap.size + 1) 3 1 v m (ints xs)
  be : Below w.heap.size w wr
theorem RsIn.kept {w : World} {n : TNet} {sa ta : Option Addr} {sn sc tn tc m : Nat} {v : Value} {xs : List Int} {wr W : World} (h : RsIn w n sa ta sn sc tn tc v m xs wr) (hb : Below wr.heap.size wr W) : RsIn w n sa ta sn sc tn tc v m xs W :=
  ⟨h.kn.kept hb, row_keep h.rs hb, own_kept h.ow hb, h.be.trans (hb.mono h.be.size)⟩

set_option maxRecDepth 100000 in
set_option maxHeartbeats 8000000 in
theorem refSus_any (n : TNet) (sa ta : Option Addr) (sn sc tn tc : Nat) (w : World) (h : NetIn n sa ta sn tn tc w) :
    Calls Try.prog 37 #[netV sa ta sn sc tn tc] w fun e w' =>
      ∃ v, e = .returned (.tuple #[v, .int .i64 (rSus n).2]) ∧ w'.ownsRow w.heap.size 3 1 v (rSus n).1.length (ints (rSus n).1) ∧ Below w.heap.size w w' := by
  have hb1 : Below w.heap.size w (w.alloc (.cells #[.slice sa sn sc, .slice ta tn tc] 35)) := (Below.refl _ _).alloc (Nat.le_refl _) _
  have kn := Blk.new w #[.slice sa sn sc, .slice ta tn tc] 35
  have HPO := hide (refPoss_any n sa ta sn sc tn tc _ (h.below hb1))
  have H := hide h
  have HR : Hid (rSus n = if (rPoss n).2 ≠ 0 then ([], (rPoss n).2) else if (rPoss n).1 = true then ([], 6) else (rSusL n n.sp.length, 0)) := hide rfl
  have HNK : Hid ((rPoss n).2 = 0 → NOk n) := hide fun h => by
    unfold rPoss at h
    split at h
    · rename_i h2; exact absurd h h2
    · rename_i h2; exact nok_of_check (Decidable.not_not.1 h2)
  clear h
  generalize rPoss n = R at *
  obtain ⟨pb, E⟩ := R
  dsimp only at HR HNK HPO
  obtain ⟨n0, n1, _⟩ := kn.two
  have ln := kn.lt
  go_enter Try.func37, Try.ntmps37
  go_wp2_with fail
  refine HPO.out.mono ?_
  rintro e W2 ⟨rfl, hb2⟩
  have kn2 := kn.kept hb2
  have hB2 := hb1.trans (hb2.mono hb1.size)
  clear hb1 hb2 kn HPO n0 n1 ln
  obtain ⟨n0, n1, _⟩ := kn2.two
  have ln := kn2.lt
  by_cases h0 : E = 0
  rotate_left
  · have HF : Hid (rSus n = ([], E)) := hide (by rw [HR.out, if_pos h0])
    have d0 : (E == 0) = false := by rw [beq_eq_false_iff_ne]; exact h0
    have d1 : (E != 0) = true := by rw [bne_iff_ne]; exact h0
    clear h0
    go_wp2_with fail
    exact bodyPost_ret (v := .tuple #[.slice none 0 0, .int .i64 E]) (by simp [results, Try.results37, go_sem]) rfl ⟨_, by rw [HF.out], by rw [HF.out]; exact World.ownsRow_nil _ _ _ _, hB2⟩
  subst h0
  cases pb with
  | true =>
    have HF : Hid (rSus n = ([], 6)) := hide (by rw [HR.out, if_neg (by simp), if_pos rfl])
    go_wp2_with fail
    exact bodyPost_ret (v := .tuple #[.slice none 0 0, .int .i64 6]) (by simp [results, Try.results37, go_sem]) rfl ⟨_, by rw [HF.out], by rw [HF.out]; exact World.ownsRow_nil _ _ _ _, hB2⟩
  | false =>
  have HF : Hid (rSus n = (rSusL n sn, 0)) := hide (by rw [HR.out, if_neg (by simp), if_neg (by simp), H.out.hsn])
  have HN := hide (HNK.out rfl)
  have hs11 : sn ≤ 11 := by have := H.out.hsn; have := HN.out.l2; omega
  have ht5 : tn ≤ 5 := by have := H.out.htn; have := HN.out.l3; omega
  have hs1 : 1 ≤ sn := by have := H.out.hsn; have := HN.out.l1; omega
  have HSL := hide H.out.hsn.symm
  obtain ⟨j0, hj0, iz0, iz1, iz2⟩ := info_int
  have HJ := hide hj0
  clear HNK HR hj0
  go_wp2_with fail
  clear n0 n1 ln
  go_loopw [6, 7] (fun v i wr => ∃ k : Nat, k ≤ sn ∧ i = .int .i64 (k : Int) ∧ RsIn w n sa ta sn sc tn tc v (rSusL n k).length (rSusL n k) wr) (fun _ i _ => sn - (intOf i).toNat)
  case atStart => exact ⟨0, Nat.zero_le _, rfl, kn2, (H.out.below hB2).rs, World.ownsRow_nil _ _ _ _, hB2⟩
  case round =>
    clear hB2 kn2
    obtain ⟨k, hk, rfl, hin⟩ := hrel
    have HSH := hide hin
    obtain ⟨n0, n1, _⟩ := hin.kn.two
    have ln := hin.kn.lt
    by_cases hlt : k < sn
    · obtain ⟨va, vcap, hva, hvc, hvm⟩ := own_shape hin.ow
      subst hva
      have hlen := rSusL_len n k
      obtain ⟨sb, soff, hsa, hsb, -⟩ := hin.rs.span (by rw [HSL.out]; omega)
      subst hsa
      clear hin
      go_wp2_with fail
      have HC := hide (fun (W : World) (hb : Below wr.heap.size wr W) => (HSH.out.kept hb))
      have hbz := HSH.out.kn.lt
      obtain ⟨i0, hi0, hz0, hz1, hz2⟩ := info_asp
      have HI := hide hi0
      clear hi0
      refine wp_region_monoF wr _ 8 (rcGood w.heap.size wr.heap.size sn (.slice (some ⟨sb, soff, none⟩) sn sc) (.slice ta tn tc) n.sp) (n := 48) (by kernel_rfl) (by decide +kernel) rfl rcGood_below ?steps ?_
      case steps =>
        refine ⟨?_, ?_, ?_, ?_, ?_, ?_, ?_, ?_, trivial⟩
        · intro ac w' h
          have e1 : ac.tmps.getD 1 undef = .pointer (some ⟨w.heap.size, 0, none⟩) := h.old 1 rfl
          refine ⟨wanted_none rfl, ?_⟩
          simp at e1
          have HBE := hide h.be
          clear h
          go_simp
          exact ⟨Below.refl _ _, rfl⟩
        · intro ac w' h
          have e1 : ac.tmps.getD 29 undef = .pointer (some ⟨w.heap.size, 1, none⟩) := h.val 0 29 rfl rfl
          refine ⟨wanted_none rfl, ?_⟩
          simp at e1
          have q := (HC.out w' h.be).kn.two
          have HBE := hide h.be
          clear h
          go_simp
          exact ⟨Below.refl _ _, rfl⟩
        · intro ac w' h
          refine ⟨wanted_none rfl, ?_⟩
          have HBE := hide h.be
          clear h
          go_simp
          exact ⟨(Below.refl _ _).alloc (Nat.le_refl _) _, ⟨_, rfl⟩⟩
        · intro ac w' h
          have e1 : ac.tmps.getD 1 undef = .pointer (some ⟨w.heap.size, 0, none⟩) := h.old 1 rfl
          refine ⟨wanted_none rfl, ?_⟩
          simp at e1
          have HBE := hide h.be
          clear h
          go_simp
          exact ⟨Below.refl _ _, rfl⟩
        · intro ac w' h
          have e1 : ac.tmps.getD 32 undef = .pointer (some ⟨w.heap.size, 0, none⟩) := h.val 3 32 rfl rfl
          refine ⟨wanted_none rfl, ?_⟩
          simp at e1
          have q := (HC.out w' h.be).kn.two
          have HBE := hide h.be
          clear h
          go_simp
          exact ⟨Below.refl _ _, rfl⟩
        · intro ac w' h
          obtain ⟨b46, e46⟩ : rcNil (ac.tmps.getD 31 undef) := h.val 2 31 rfl rfl
          have e48 : ac.tmps.getD 33 undef = .slice (some ⟨sb, soff, none⟩) sn sc := h.val 4 33 rfl rfl
          refine ⟨wanted_none rfl, ?_⟩
          simp at e46 e48
          have hbs := h.be.size
          obtain ⟨v', w1, hr, ho, hg⟩ := run_append_arg_grows (P := Try.prog) w' 22 22 53 i0 (.agg #[.int .i64 0, .int .i64 0]) 2 16 under_asps HI.out hz0 hz1 hz2 rfl (by decide) ⟨b46, 0, none⟩ 0 0 [] rfl (by simp) ⟨sb, soff, none⟩ sn sc (spans n.sp) (by rw [spans_length, HSL.out]; omega) (fun j u hj => row_reads (HC.out w' h.be).rs j u hj) (by omega) (by unfold maxLen; omega) (by omega)
          have hs1 : ac.eval (.tmp 31) = .slice (some ⟨b46, 0, none⟩) 0 0 := by simpa [Act.eval] using e46
          have hs2 : ac.eval (.tmp 33) = .slice (some ⟨sb, soff, none⟩) sn sc := by simpa [Act.eval] using e48
          clear h e46 e48
          unfold stepUpon
          simp [execOp, resolve, invoke, builtin, hs1, hs2, hr, Result.andThen]
          refine ⟨below_of_grown hg, ?_⟩
          have ho' := Go.Joins.ownsRow_le ho hbs
          rw [Nat.zero_add, List.nil_append] at ho'
          obtain ⟨ga, gc, e, _, _⟩ := own_shape ho'
          subst e
          obtain ⟨g, c, e2, _, _⟩ := ho'.form (by omega)
          cases e2
          exact ⟨g, gc, rfl, ho'⟩
        · intro ac w' h
          have e45 : ac.tmps.getD 30 undef = .slice ta tn tc := h.val 1 30 rfl rfl
          obtain ⟨g49, c49, e49, hv49⟩ : (rcOwn wr.heap.size sn n.sp) w' (ac.tmps.getD 34 undef) := h.val 5 34 rfl rfl
          refine ⟨wanted_none rfl, ?_⟩
          simp at e45 e49
          have Hhv49 := hide hv49
          clear hv49
          clear h
          go_simp
          exact ⟨Below.refl _ _, ⟨_, _, rfl, Hhv49.out⟩⟩
        · intro ac w' h
          refine ⟨wanted_none rfl, ?_⟩
          have hbs := h.be.size
          clear h
          go_simp
          exact ⟨(Below.refl _ _).alloc (Nat.le_refl _) _, ⟨_, rfl, hbs, Blk.new _ _ _⟩⟩
      intro vs w2 hb2 hv
      have v0 := hv 0 (by omega)
      have v1 := hv 1 (by omega)
      obtain ⟨g2, v2⟩ := hv 2 (by omega)
      have v3 := hv 3 (by omega)
      have v4 := hv 4 (by omega)
      obtain ⟨g5, c5, v5, -⟩ := hv 5 (by omega)
      obtain ⟨g6, c6, v6, hown⟩ := hv 6 (by omega)
      obtain ⟨p7, v7, hp7, k7⟩ := hv 7 (by omega)
      simp only [rcGood] at v0 v1 v3 v4
      simp only [List.take_succ_cons, List.take_zero, List.drop_succ_cons, List.drop_zero, putSeq, Act.put, List.setIfInBounds_toArray, List.set_cons_zero, List.set_cons_succ, v0, v1, v2, v3, v4, v5, v6, v7, Nat.reduceAdd]
      clear hv v0 v1 v2 v3 v4 v5 v6 v7 HI hz0 hz1 hz2 hbz
      have hsh2 := HC.out w2 hb2
      have hne : g6 ≠ p7 := ownBlkR hown rfl k7 (by decide)
      have hg6 := hown.lt g6 rfl
      obtain ⟨q0, q1, qf0, qf1⟩ := k7.two
      have ql := k7.lt
      clear HC
      obtain ⟨c0, c1, f0, f1⟩ := own2_cell hown hlt
      have hne' := hne.symm
      have hg2 := hg6.2
      have ho1 := own_setR (i := 0) (u := .slice (some ⟨g6, 0, none⟩) sn c6) hown k7 (by decide)
      have k7a := k7.set 0 (.slice (some ⟨g6, 0, none⟩) sn c6)
      have ho2 := own_setR (i := 1) (u := .slice ta tn tc) ho1 k7a (by decide)
      have k7b := k7a.set 1 (.slice ta tn tc)
      have ho3 := own2_set ho2 k 0 40000
      have k7c := (k7b.other (p := ⟨g6, k * 2, none⟩) hne' (.int .i64 0)).other (p := ⟨g6, k * 2 + 1, none⟩) hne' (.int .i64 40000)
      have hbW : Below wr.heap.size wr ((((w2.setCell ⟨p7, 0, none⟩ (.slice (some ⟨g6, 0, none⟩) sn c6)).setCell ⟨p7, 1, none⟩ (.slice ta tn tc)).setCell ⟨g6, k * 2, none⟩ (.int .i64 0)).setCell ⟨g6, k * 2 + 1, none⟩ (.int .i64 40000)) :=
        (((hb2.setCell (p := ⟨p7, 0, none⟩) hp7 _).setCell (p := ⟨p7, 1, none⟩) hp7 _).setCell (p := ⟨g6, k * 2, none⟩) hg6.1 _).setCell (p := ⟨g6, k * 2 + 1, none⟩) hg6.1 _
      have hB0 := HSH.out.be
      have HNI := hide (netin_ownR (H.out.below hB0) (hbW.mono (by omega)) ho3 (by rw [List.length_set]; exact HSL.out))
      have HSW := hide (HSH.out.kept hbW)
      go_upto_region 12 with (fail)
      clear ho1 k7a ho2 k7b ho3 hbW hown k7 hb2 hsh2 qf0 qf1 q0 q1 c0 c1 f0 f1 hne' hne hg2 hg6 hB0 n0 n1 ln ql
      simp only [List.setIfInBounds_toArray, List.set_cons_zero, List.set_cons_succ] at k7c
      generalize World.setCell (World.setCell (World.setCell (World.setCell w2 _ _) _ _) _ _) _ _ = W4 at *
      have HPS := hide (possible_any (withR n k) (some ⟨g6, 0, none⟩) ta sn c6 tn tc W4 HNI.out hs11 ht5 (withR_spw HN.out k))
      obtain ⟨q0, q1, _⟩ := k7c.two
      have ql := k7c.lt
      have hnb := HSW.out.kn.lt
      go_wp2_with fail
      refine HPS.out.mono ?_
      rintro e W5 ⟨rfl, hb5⟩
      have HS5 := hide (HSW.out.kept hb5)
      have hnb5 := HS5.out.kn.lt
      obtain ⟨n0, n1, _⟩ := HS5.out.kn.two
      clear HPS HNI HSW hb5 q0 q1 ql k7c hnb
      cases hfo : rPos (withR n k) with
      | true =>
        have HS := hide (rSusL_yes hfo)
        clear hfo
        generalize hm : (rSusL n k).length = m at *
        have HM := hide hm
        clear hm
        go_wp2_with (
          at_builtin
          refine wpList_append_lies _ rfl (.tmp 43) (.tmp 45) 38 rfl (w.heap.size + 1) 3 j0 (.int .i64 0) 1 8 under_ints HJ.out iz0 iz1 iz2 rfl (by decide) _ m (ints (rSusL n k)) rfl (HS5.out.ow.alloc _) ⟨W5.heap.size, 0, none⟩ 1 1 [.int .i64 (k : Int)] rfl rfl
            (World.news_of_block (cs := #[.int .i64 (k : Int)]) (t := 3) (fr := (0, 0)) (Blk.newAt (by simp) _ _)) (by intro u hu; simp at hu; subst hu; rfl) (by decide) (by unfold maxLen; omega) (by omega) (by simp; omega) _ rfl ?_
          intro g8 cap8 W6 ow6 gr6 at6 lt6)
        have hB6 : Below w.heap.size w W6 := below_own (HS5.out.be.alloc HS5.out.be.size _) (HS5.out.ow.alloc _) (Nat.le_succ _) (by simp; omega) gr6
        have kn6 : Blk W6 w.heap.size #[.slice (some ⟨sb, soff, none⟩) sn sc, .slice ta tn tc] 35 := (gr6.block _ (by simp; omega) (fun e => by have := (HS5.out.ow.lt _ e.symm).1; omega)).trans (HS5.out.kn.alloc _)
        go_roundw
        case rel => exact ⟨k + 1, by omega, by go_num, by rw [HS.out, List.length_append, HM.out]; exact ⟨kn6, (H.out.below hB6).rs, by rw [ints_append]; exact ow6, hB6⟩⟩
        case measure => simp [intOf]; omega
      | false =>
        have HS := hide (rSusL_no hfo)
        clear hfo
        go_wp2_with fail
        go_roundw
        case rel => exact ⟨k + 1, by omega, by go_num, by rw [HS.out]; exact HS5.out⟩
        case measure => simp [intOf]; omega
    · have hkn : k = sn := by omega
      rw [hkn] at hin
      have own' := Go.Joins.ownsRow_le hin.ow (Nat.le_succ w.heap.size)
      obtain ⟨va, cap, rfl, _, _⟩ := own_shape own'
      have hB := hin.be
      clear hkn hin HSH
      go_wp2_with fail
      refine bodyPost_ret (v := .tuple #[.slice va (rSusL n sn).length cap, .int .i64 0]) (by simp [results, Try.results37, go_sem]) rfl ⟨_, by rw [HF.out], by rw [HF.out]; exact own', hB⟩

end Go.Proofs.Ytlbhnicengolfaa

/-! ## ClaW: TotalClashes: the walk. -/
namespace Go.Proofs.Ytlbhnicengolfaa
open Go.RowKit
set_option linter.unusedVariables false
set_option linter.unusedSimpArgs false

theorem nar_pos {n : TNet} (h : NOk n) : narOk n.ts (sqs n.sp) = rPos n := by
  rw [Bool.eq_iff_iff, ok_iff h (sqs_len _)]
  exact (rPos_is h (nok_spok h)).symm
theorem rPos1_brk {n : TNet} (h : NOk n) {m : Nat} (h1 : 1 ≤ m) (h2 : m < 2 ^ n.ts.length) : rPos1 n m = true ↔ ((grpR n.ts (bitsK m n.ts.length) n.sp.length).2 = true → brkR n (grpR n.ts (bitsK m n.ts.length) n.sp.length).1 = false) := by
  unfold rPos1
  rw [req_grp h h1 h2]
  cases hy : (grpR n.ts (bitsK m n.ts.length) n.sp.length).2 with
  | false => simp
  | true =>
    rw [reK_brk (gl_ones h h1 h2 hy) _ (Nat.le_refl _)]
    unfold brkR
    generalize brkL (grpR n.ts (bitsK m n.ts.length) n.sp.length).1 (sqs n.sp) n.sp.length = b
    simp only [Bool.not_true, Bool.false_or, Bool.and_eq_true, decide_eq_true_eq, Bool.or_eq_false_iff, decide_eq_false_iff_not, true_implies]
    omega
theorem ord_bitsK : ∀ t : Fin 6, ∀ m : Fin 32, ordOk ((t : Nat) : Int) (-1) (bitsK m t) = 0 := by decide +kernel
theorem mem_grpUp2 {ts : List Tri} {sn m : Nat} (h1 : 1 ≤ m) (hg : (grpR ts (bitsK m ts.length) sn).2 = true) : ∀ {k}, m ≤ k → (bitsK m ts.length, (grpR ts (bitsK m ts.length) sn).1) ∈ grpUp ts sn k
  | 0, h => by omega
  | k + 1, h => by
    unfold grpUp
    rcases Nat.lt_or_ge m (k + 1) with h | h'
    · exact List.mem_append_left _ (mem_grpUp2 h1 hg (by omega))
    · obtain rfl : m = k + 1 := by omega
      refine List.mem_append_right _ ?_
      unfold grpOne
      rw [if_pos hg]
      exact List.mem_singleton.2 rfl
theorem two_pow5 {t : Nat} (h : t ≤ 5) : 2 ^ t ≤ 32 := by
  have : 2 ^ t ≤ 2 ^ 5 := Nat.pow_le_pow_right (by omega) h
  omega
/-- What Clash returns, by the reference. -/
theorem cla_cases (n : TNet) : ((claR n).2 ≠ 0 ∧ (claR n).1 = [] ∧ rPoss n = (false, (claR n).2)) ∨ (claR n = ([], 6) ∧ rPoss n = (true, 0)) ∨ ((claR n).2 = 0 ∧ rPoss n = (false, 0) ∧ verR n (claR n).1 = 0 ∧ (claR n).1.length ≤ 5) := by
  unfold rPoss
  by_cases hc : checkT n = 0
  · rw [if_neg (by simpa using hc)]
    have hn := nok_of_check hc
    have hl3 := hn.l3
    have h32 := two_pow5 hl3
    cases hp : rPos n with
    | true =>
      right; left
      refine ⟨?_, rfl⟩
      have hnone : (grpAll n).find? (fun x => brkR n x.2) = none := by
        rw [List.find?_eq_none]
        intro x hx
        obtain ⟨m, h1, h2, h3, rfl⟩ := mem_grpUp hx
        have hlt : m < 2 ^ n.ts.length := by have : 0 < 2 ^ n.ts.length := Nat.two_pow_pos _; omega
        have := (rPos1_brk hn h1 hlt).1 (rPosK_all.1 (show rPosK n (2 ^ n.ts.length) = true from hp) m h1 hlt) h3
        rw [this]; simp
      unfold claR
      rw [if_neg (by simpa using hc), hnone]
    | false =>
      right; right
      have hex : ∃ m, 1 ≤ m ∧ m < 2 ^ n.ts.length ∧ rPos1 n m = false := Classical.byContradiction fun hno => by
        have : rPos n = true := rPosK_all.2 fun m h1 h2 => by
          cases hm : rPos1 n m with
          | true => rfl
          | false => exact absurd ⟨m, h1, h2, hm⟩ hno
        rw [hp] at this; cases this
      obtain ⟨m, h1, h2, hm⟩ := hex
      have hb : (grpR n.ts (bitsK m n.ts.length) n.sp.length).2 = true ∧ brkR n (grpR n.ts (bitsK m n.ts.length) n.sp.length).1 = true := by
        have := rPos1_brk hn h1 h2
        rw [hm] at this
        refine Classical.byContradiction fun hno => ?_
        have h3 := this.2 fun h => by
          cases hb : brkR n (grpR n.ts (bitsK m n.ts.length) n.sp.length).1 with
          | false => rfl
          | true => exact absurd ⟨h, hb⟩ hno
        cases h3
      have hmem : (bitsK m n.ts.length, (grpR n.ts (bitsK m n.ts.length) n.sp.length).1) ∈ grpAll n := mem_grpUp2 h1 hb.1 (by omega)
      have hsome : ((grpAll n).find? (fun x => brkR n x.2)).isSome := by
        rw [List.find?_isSome]
        exact ⟨_, hmem, hb.2⟩
      obtain ⟨y, hy⟩ := Option.isSome_iff_exists.1 hsome
      have hyb : brkR n y.2 = true := by simpa using List.find?_some hy
      obtain ⟨m', g1, g2, g3, rfl⟩ := mem_grpUp (List.mem_of_find?_eq_some hy)
      have hlt' : m' < 2 ^ n.ts.length := by have : 0 < 2 ^ n.ts.length := Nat.two_pow_pos _; omega
      have hR : claR n = (bitsK m' n.ts.length, 0) := by
        unfold claR
        rw [if_neg (by simpa using hc), hy]
      have hord : ordOk n.ts.length (-1) (bitsK m' n.ts.length) = 0 := ord_bitsK ⟨n.ts.length, by omega⟩ ⟨m', by omega⟩
      have heq : eqR n (bitsK m' n.ts.length) = ((grpR n.ts (bitsK m' n.ts.length) n.sp.length).1, 0) := by
        unfold eqR
        rw [if_neg (by rw [hc]; simp), if_neg (bits_ne g1 hlt'), if_neg (by rw [hord]; simp), if_pos g3]
      rw [hR]
      refine ⟨rfl, rfl, ?_, by have := bitsK_len m' n.ts.length; dsimp only; omega⟩
      unfold verR
      dsimp only
      rw [heq, if_neg (by simp), if_neg (by dsimp only; rw [hyb]; simp)]
  · rw [if_pos hc]
    left
    have : claR n = ([], checkT n) := by unfold claR; rw [if_pos hc]
    rw [this]
    exact ⟨hc, rfl, rfl⟩
theorem rSus_is (n : TNet) : rSus n = susR n := by
  unfold rSus susR rPoss sqR
  by_cases hc : checkT n = 0
  · have hn := nok_of_check hc
    rw [if_neg (show ¬ checkT n ≠ 0 by simpa using hc), if_neg (show ¬ checkT n ≠ 0 by simpa using hc), nar_pos hn, rSusL_is hn]
    cases hp : rPos n with
    | true => simp
    | false => simp
  · have h13 := checkT_ne n
    rw [if_pos hc, if_pos hc]
    dsimp only
    rw [if_pos hc, if_neg hc, if_neg h13]
theorem claPost_row {R : List Int × Int} {w w' : World} {e : Ending} (h : claPost R w e w') (hz : R.2 ≠ 0 → R.1 = []) : ∃ a cap, e = .returned (.tuple #[.slice a R.1.length cap, .int .i64 R.2]) ∧ Row w' w'.heap.size a (ints R.1) ∧ Below w.heap.size w w' := by
  obtain ⟨v, h1, h2, h3, hb⟩ := h
  by_cases h0 : R.2 = 0
  · obtain ⟨b, cap, rfl, hr⟩ := h2 h0
    exact ⟨_, cap, h1, hr, hb⟩
  · have := h3 h0
    subst this
    rw [hz h0] at *
    exact ⟨none, 0, h1, .nil _ _ _, hb⟩
theorem susR_len (n : TNet) : (susR n).1.length ≤ 1000000000 := by
  unfold susR sqR
  by_cases hc : checkT n = 0
  · have hn := nok_of_check hc
    have h2 := hn.l2
    have := susL_len n n.sp.length
    rw [if_neg (show ¬ checkT n ≠ 0 by simpa using hc)]
    cases narOk n.ts (sqs n.sp) with
    | true => simp
    | false =>
      show (susL n n.sp.length).length ≤ 1000000000
      omega
  · rw [if_pos hc]
    dsimp only
    rw [if_neg hc, if_neg (checkT_ne n)]
    simp

set_option maxRecDepth 100000 in
set_option maxHeartbeats 8000000 in
theorem clashes_any (n : TNet) (sa ta : Option Addr) (sn sc tn tc : Nat) (w : World) (h : NetArg n sa ta sn tn tc w) :
    Calls Try.prog 6 #[netV sa ta sn sc tn tc] w fun e w' => e = .returned (.bool true) ∧ Below w.heap.size w w' := by
  have H := hide h
  have HLG := hide (fun W => large_any n sa ta sn sc tn tc W)
  have hk := Blk.new w #[.slice sa sn sc, .slice ta tn tc] 25
  have hb1 : Below w.heap.size w (w.alloc (.cells #[.slice sa sn sc, .slice ta tn tc] 25)) := (Below.refl _ _).alloc (Nat.le_refl _) _
  clear h
  go_enter Try.func6, Try.ntmps6
  by_cases hlg : (decide (40 < sn) || decide (40 < tn)) = true
  · rw [hlg] at HLG
    clear hlg
    go_wp2_with fail
    refine (HLG.out _).mono ?_
    rintro e W1 ⟨rfl, hb2⟩
    have hB := hb1.trans (hb2.mono hb1.size)
    go_wp2_with fail
    refine (works_any _).mono ?_
    rintro e W9 ⟨rfl, hb9⟩
    go_wp2_with fail
    go_ret
    exact ⟨rfl, hB.trans (hb9.mono hB.size)⟩
  have hs40 : ¬ 40 < sn := fun h => hlg (by simp [h])
  have ht40 : ¬ 40 < tn := fun h => hlg (by simp [h])
  have hlg' : (decide (40 < sn) || decide (40 < tn)) = false := by simpa using hlg
  rw [hlg'] at HLG
  have HN := hide (H.out.small hs40 ht40)
  have HT40 := hide (show tn ≤ 40 by omega)
  have HCC := hide (cla_cases n)
  have HSI := hide (rSus_is n)
  have HSL := hide (susR_len n)
  clear hlg hlg' hs40 ht40 H
  go_wp2_with fail
  refine (HLG.out _).mono ?_
  rintro e W1 ⟨rfl, hb2⟩
  have hB := hb1.trans (hb2.mono hb1.size)
  have hk1 := hk.kept hb2
  clear hb1 hb2 hk
  obtain ⟨n0, n1, _⟩ := hk1.two
  have ln0 := hk1.lt
  go_wp2_with fail
  refine (given_any n sa ta sn sc tn tc W1 (HN.out.below hB) HT40.out).mono ?_
  rintro e W2 ⟨a', tc', rfl, hn2, hb2⟩
  obtain ⟨V3, hV3⟩ : ∃ V3, W2.alloc (.cells #[.slice sa sn sc, .slice a' tn tc'] 35) = V3 := ⟨_, rfl⟩
  have hb3 : Below W2.heap.size W2 V3 := by rw [← hV3]; exact (Below.refl _ _).alloc (Nat.le_refl _) _
  have k3 : Blk V3 W2.heap.size #[.slice sa sn sc, .slice a' tn tc'] 35 := by rw [← hV3]; exact Blk.new _ _ _
  have hk2 := (hk1.kept hb2).kept hb3
  have hB2 := hB.trans (hb2.mono hB.size)
  have hB3 := hB2.trans (hb3.mono hB2.size)
  have hnr := hn2.below hb3
  clear hk1 n0 n1 ln0 hB hb2 hn2 hb3 hB2 HLG
  obtain ⟨n0, n1, _⟩ := hk2.two
  have ln0 := hk2.lt
  obtain ⟨m0, m1, _⟩ := k3.two
  have lm0 := k3.lt
  go_wp2_with fail
  refine (clash_any n sa ta sn sc tn tc _ (HN.out.below hB3) (fun h => nz_all (nok_of_check h))).mono ?_
  rintro e W4 h4
  obtain ⟨x, xc, rfl, hx, hb4⟩ := claPost_row h4 (fun h => by
    rcases HCC.out with h' | h' | h'
    · exact h'.2.1
    · rw [h'.1]
    · exact absurd h'.1 h)
  have HX := hide hx
  have hk4 := hk2.kept hb4
  have k4 := k3.kept hb4
  have hB4 := hB3.trans (hb4.mono hB3.size)
  have hn4 := hnr.below hb4
  clear h4 hk2 k3 hnr n0 n1 ln0 m0 m1 lm0 hB3 hb4 hx hV3
  obtain ⟨n0, n1, _⟩ := hk4.two
  have ln0 := hk4.lt
  obtain ⟨m0, m1, _⟩ := k4.two
  have lm0 := k4.lt
  go_wp2_with fail
  refine (refPoss_any n sa a' sn sc tn tc' _ hn4).mono ?_
  rintro e W5 ⟨rfl, hb5⟩
  have hk5 := hk4.kept hb5
  have k5 := k4.kept hb5
  have hB5 := hB4.trans (hb5.mono hB4.size)
  have hn5 := hn4.below hb5
  have HX5 := hide (row_keep HX.out hb5)
  clear hk4 k4 hn4 n0 n1 ln0 m0 m1 lm0 hB4 hb5 HX
  obtain ⟨n0, n1, _⟩ := hk5.two
  have ln0 := hk5.lt
  obtain ⟨m0, m1, _⟩ := k5.two
  have lm0 := k5.lt
  go_wp2_with fail
  refine (suspects_any n sa ta sn sc tn tc _ (HN.out.below hB5)).mono ?_
  rintro e W6 ⟨v6, rfl, ho6, hb6⟩
  obtain ⟨s6, c6, rfl, hr6⟩ := own_row ho6
  have HR6 := hide hr6
  have hk6 := hk5.kept hb6
  have k6 := k5.kept hb6
  have hB6 := hB5.trans (hb6.mono hB5.size)
  have hn6 := hn5.below hb6
  have HX6 := hide (row_keep HX5.out hb6)
  clear hk5 k5 hn5 n0 n1 ln0 m0 m1 lm0 hB5 hb6 HX5 ho6 hr6
  obtain ⟨m0, m1, _⟩ := k6.two
  have lm0 := k6.lt
  go_wp2_with fail
  refine (refSus_any n sa a' sn sc tn tc' _ hn6).mono ?_
  rintro e W7 ⟨v7, rfl, ho7, hb7⟩
  rw [HSI.out] at ho7 ⊢
  obtain ⟨s7, c7, rfl, hr7⟩ := own_row ho7
  have HR7 := hide hr7
  have hR6 := row_keep HR6.out hb7
  have k7 := k6.kept hb7
  have hB7 := hB6.trans (hb7.mono hB6.size)
  have HN7 := hide (hn6.below hb7)
  have HX7 := hide (row_keep HX6.out hb7)
  have HNUM := hide (numbers_any (susR n).1 (susR n).1 s6 s7 (susR n).1.length c6 (susR n).1.length c7 _ _ W7 rfl rfl HSL.out HSL.out hR6 HR7.out)
  rw [decide_eq_true (rfl : (susR n).1 = (susR n).1)] at HNUM
  clear hk6 k6 hn6 m0 m1 lm0 hB6 hb7 HX6 ho7 hr7 hR6 HR7 HR6 HSI HSL
  generalize (susR n).1.length = sl at *
  generalize (susR n).2 = G at *
  have dG : (G != G) = false := by simp
  have HVE := hide (fun (W : World) (hb : Below W7.heap.size W7 W) => refVer_any n (claR n).1 sa a' x sn sc tn tc' (claR n).1.length xc W (HN7.out.below hb) rfl)
  rcases HCC.out with hc | hc | hc
  · obtain ⟨hE, hl, hP⟩ := hc
    rw [hP, hl] at *
    clear hP hl HCC HVE
    generalize (claR n).2 = E at *
    have d0 : (E == 0) = false := by rw [beq_eq_false_iff_ne]; exact hE
    have d1 : (E != E) = false := by simp
    have d2 : (E != 0) = true := by rw [bne_iff_ne]; exact hE
    clear hE
    dsimp only
    go_wp2_with fail
    refine HNUM.out.mono ?_
    rintro e W8 ⟨rfl, hb8⟩
    have hB8 := hB7.trans (hb8.mono hB7.size)
    clear HNUM hb8
    go_wp2_with fail
    refine (works_any _).mono ?_
    rintro e W9 ⟨rfl, hb9⟩
    go_wp2_with fail
    go_ret
    exact ⟨rfl, hB8.trans (hb9.mono hB8.size)⟩
  · obtain ⟨hE, hP⟩ := hc
    rw [hP, hE] at *
    clear hP hE HCC HVE
    dsimp only
    go_wp2_with fail
    refine HNUM.out.mono ?_
    rintro e W8 ⟨rfl, hb8⟩
    have hB8 := hB7.trans (hb8.mono hB7.size)
    clear HNUM hb8
    go_wp2_with fail
    refine (works_any _).mono ?_
    rintro e W9 ⟨rfl, hb9⟩
    go_wp2_with fail
    go_ret
    exact ⟨rfl, hB8.trans (hb9.mono hB8.size)⟩
  · obtain ⟨hE, hP, hV, hl5⟩ := hc
    have HV := hide hV
    have HL5 := hide hl5
    rw [hP, hE] at *
    clear hP hE HCC hV hl5
    generalize (claR n).1 = L at *
    dsimp only
    go_wp2_with fail
    refine HNUM.out.mono ?_
    rintro e W8 ⟨rfl, hb8⟩
    have hB8 := hB7.trans (hb8.mono hB7.size)
    have HX8 := hide (row_keep HX7.out hb8)
    have k8 := k7.kept hb8
    have HVER := hide (HVE.out W8 hb8 (by have := HL5.out; omega) HX8.out)
    rw [HV.out] at HVER
    obtain ⟨m0, m1, _⟩ := k8.two
    have lm0 := k8.lt
    clear HNUM hb8 HVE k7 k8
    go_wp2_with fail
    refine HVER.out.mono ?_
    rintro e W9 ⟨rfl, hb9⟩
    have hB9 := hB8.trans (hb9.mono hB8.size)
    clear HVER hb9
    go_wp2_with fail
    refine (works_any _).mono ?_
    rintro e W10 ⟨rfl, hb10⟩
    go_wp2_with fail
    go_ret
    exact ⟨rfl, hB9.trans (hb10.mono hB9.size)⟩

end Go.Proofs.Ytlbhnicengolfaa

/-! ## RefSq: The reference of total: Squares. -/
namespace Go.Proofs.Ytlbhnicengolfaa
open Go.RowKit
set_option linter.unusedVariables false
set_option linter.unusedSimpArgs false

theorem minIq (ats : Array TypeId) (ty : TypeId) (k k' : IntKind) (x y : Int) : Builtin.min_ ats ty #[.int k x, .int k' y] = pure (.int k (min x y)) := by
  simp only [Builtin.min_, List.foldlM_cons, List.foldlM_nil, Builtin.min2]
  by_cases h : y < x
  · rw [if_pos h, Int.min_eq_right (by omega)]; rfl
  · rw [if_neg h, Int.min_eq_left (by omega)]; rfl
theorem maxIq (ats : Array TypeId) (ty : TypeId) (k k' : IntKind) (x y : Int) : Builtin.max_ ats ty #[.int k x, .int k' y] = pure (.int k (max x y)) := by
  simp only [Builtin.max_, List.foldlM_cons, List.foldlM_nil, Builtin.max2]
  by_cases h : x < y
  · rw [if_pos (by omega), Int.max_eq_right (by omega)]; rfl
  · rw [if_neg (by omega), Int.max_eq_left (by omega)]; rfl
/-- What the reference's Squares returns. -/
def rSqs (n : TNet) : List Sp × Int := if (rPoss n).2 ≠ 0 then ([], (rPoss n).2) else if (rPoss n).1 = false then ([], 13) else ((List.range n.sp.length).map (rSq1 n), 0)
theorem rSqs_is (n : TNet) : rSqs n = sqR n := by
  unfold rSqs rPoss sqR
  by_cases hc : checkT n = 0
  · have hn := nok_of_check hc
    rw [if_neg (show ¬ checkT n ≠ 0 by simpa using hc), if_neg (show ¬ checkT n ≠ 0 by simpa using hc), nar_pos hn]
    cases hp : rPos n with
    | true =>
      have hok : narOk n.ts (sqs n.sp) = true := by rw [nar_pos hn]; exact hp
      have e : (List.range n.sp.length).map (rSq1 n) = narT n.ts (sqs n.sp) := by
        refine List.ext_getElem (by rw [List.length_map, List.length_range, narT_len, sqs_len]) fun i h1 h2 => ?_
        have hi : i < n.sp.length := by simpa using h1
        rw [List.getElem_map, List.getElem_range, rSq_is hn hok hi, List.getD_eq_getElem?_getD, List.getElem?_eq_getElem h2]
        rfl
      dsimp only
      rw [if_neg (by simp), if_neg (by simp), if_pos rfl, e]
    | false => simp
  · rw [if_pos hc, if_pos hc]
    dsimp only
    rw [if_pos hc]
structure SqIn (w : World) (n : TNet) (sa ta : Option Addr) (sn sc tn tc : Nat) (v : Value) (m : Nat) (L : List Sp) (wr : World) : Prop where
  kn : Blk wr w.heap.size #[.slice sa sn sc, .slice ta tn tc] 35
  rs : Row wr wr.heap.size sa (spans n.sp)
  ow : wr.ownsRow (w.heap.size + 1) 53 2 v m (spans L)
  be : Below w.heap.size w wr
section
variable {w : World} {n : TNet} {sa ta : Option Addr} {sn sc tn tc m : Nat} {v : Value} {L : List Sp} {wr W : World}
theorem SqIn.kept (h : SqIn w n sa ta sn sc tn tc v m L wr) (hb : Below wr.heap.size wr W) : SqIn w n sa ta sn sc tn tc v m L W :=
  ⟨h.kn.kept hb, row_keep h.rs hb, own_kept h.ow hb, h.be.trans (hb.mono h.be.size)⟩
theorem SqIn.set (h : SqIn w n sa ta sn sc tn tc v m L wr) (HI : NetIn n sa ta sn tn tc w) {b : Nat} (hb : w.heap.size < b) (hob : ∀ g, v.ownBlock = some g → g ≠ b) (i : Nat) (u : Value) : SqIn w n sa ta sn sc tn tc v m L (wr.setCell ⟨b, i, none⟩ u) :=
  have hbe := h.be.setCell (p := ⟨b, i, none⟩) (show w.heap.size ≤ b by omega) u
  ⟨h.kn.other (p := ⟨b, i, none⟩) (show w.heap.size ≠ b by omega) u, (HI.below hbe).rs, h.ow.kept (row := some b) (own2_grown _ _ _ _) (by
    cases hv : v.ownBlock with
    | none => exact .inl rfl
    | some j => exact .inr fun e => hob j hv (by injection e)), hbe⟩
end
theorem rSqK_next (n : TNet) (q : Nat) {m : Nat} (h : 1 ≤ m) : rSqK n q m = rSqS n q (rSqK n q (m - 1)) m := by
  obtain ⟨j, rfl⟩ : ∃ j, m = j + 1 := ⟨m - 1, by omega⟩
  rfl

attribute [local go_sem high] minIq maxIq in
set_option maxRecDepth 100000 in
set_option maxHeartbeats 16000000 in
theorem refSq_any (n : TNet) (sa ta : Option Addr) (sn sc tn tc : Nat) (w : World) (h : NetIn n sa ta sn tn tc w) :
    Calls Try.prog 28 #[netV sa ta sn sc tn tc] w fun e w' =>
      ∃ v, e = .returned (.tuple #[v, .int .i64 (rSqs n).2]) ∧ w'.ownsRow w.heap.size 53 2 v (rSqs n).1.length (spans (rSqs n).1) ∧ Below w.heap.size w w' := by
  have hb1 : Below w.heap.size w (w.alloc (.cells #[.slice sa sn sc, .slice ta tn tc] 35)) := (Below.refl _ _).alloc (Nat.le_refl _) _
  have kn := Blk.new w #[.slice sa sn sc, .slice ta tn tc] 35
  have HPO := hide (refPoss_any n sa ta sn sc tn tc _ (h.below hb1))
  have H := hide h
  have HR : Hid (rSqs n = if (rPoss n).2 ≠ 0 then ([], (rPoss n).2) else if (rPoss n).1 = false then ([], 13) else ((List.range n.sp.length).map (rSq1 n), 0)) := hide rfl
  have HNK : Hid ((rPoss n).2 = 0 → NOk n) := hide fun h => by
    unfold rPoss at h
    split at h
    · rename_i h2; exact absurd h h2
    · rename_i h2; exact nok_of_check (Decidable.not_not.1 h2)
  clear h
  generalize rPoss n = R at *
  obtain ⟨pb, E⟩ := R
  dsimp only at HR HNK HPO
  obtain ⟨n0, n1, _⟩ := kn.two
  have ln := kn.lt
  go_enter Try.func28, Try.ntmps28
  go_wp2_with fail
  refine HPO.out.mono ?_
  rintro e W2 ⟨rfl, hb2⟩
  have kn2 := kn.kept hb2
  have hB2 := hb1.trans (hb2.mono hb1.size)
  clear hb1 hb2 kn HPO n0 n1 ln
  obtain ⟨n0, n1, _⟩ := kn2.two
  have ln := kn2.lt
  by_cases h0 : E = 0
  rotate_left
  · have HF : Hid (rSqs n = ([], E)) := hide (by rw [HR.out, if_pos h0])
    have d0 : (E == 0) = false := by rw [beq_eq_false_iff_ne]; exact h0
    have d1 : (E != 0) = true := by rw [bne_iff_ne]; exact h0
    clear h0
    go_wp2_with fail
    exact bodyPost_ret (v := .tuple #[.slice none 0 0, .int .i64 E]) (by simp [results, Try.results28, go_sem]) rfl ⟨_, by rw [HF.out], by rw [HF.out]; exact World.ownsRow_nil _ _ _ _, hB2⟩
  subst h0
  cases pb with
  | false =>
    have HF : Hid (rSqs n = ([], 13)) := hide (by rw [HR.out, if_neg (by simp), if_pos rfl])
    go_wp2_with fail
    exact bodyPost_ret (v := .tuple #[.slice none 0 0, .int .i64 13]) (by simp [results, Try.results28, go_sem]) rfl ⟨_, by rw [HF.out], by rw [HF.out]; exact World.ownsRow_nil _ _ _ _, hB2⟩
  | true =>
  have HF : Hid (rSqs n = ((List.range sn).map (rSq1 n), 0)) := hide (by rw [HR.out, if_neg (by simp), if_neg (by simp), H.out.hsn])
  have HN := hide (HNK.out rfl)
  have hs11 : sn ≤ 11 := by have := H.out.hsn; have := HN.out.l2; omega
  have ht5 : tn ≤ 5 := by have := H.out.htn; have := HN.out.l3; omega
  have HSL := hide H.out.hsn.symm
  have HSW := hide (nok_spw HN.out)
  obtain ⟨N2, hN2, hsh, hN32, hN1⟩ := pow5 ht5
  have HN2 := hide hN2
  obtain ⟨i0, hi, hz0, hz1, hz2⟩ := info_asp
  have HI := hide hi
  clear HNK HR hi hN2
  go_wp2_with fail
  clear n0 n1 ln
  go_loopw [6, 7] (fun v i wr => ∃ k : Nat, k ≤ sn ∧ i = .int .i64 (k : Int) ∧ SqIn w n sa ta sn sc tn tc v k ((List.range k).map (rSq1 n)) wr) (fun _ i _ => sn - (intOf i).toNat)
  case atStart => exact ⟨0, Nat.zero_le _, rfl, kn2, (H.out.below hB2).rs, World.ownsRow_nil _ _ _ _, hB2⟩
  case round =>
    clear hB2 kn2
    obtain ⟨k, hk, rfl, hin⟩ := hrel
    by_cases hlt : k < sn
    · have HSH := hide hin
      obtain ⟨n0, n1, _⟩ := hin.kn.two
      have ln := hin.kn.lt
      obtain ⟨va, vcap, hva, hvc, hvm⟩ := own_shape hin.ow
      subst hva
      obtain ⟨sb, soff, hsa, hsb, hsc⟩ := hin.rs.span (by rw [HSL.out]; omega)
      obtain ⟨s0, s1⟩ := hsc k (by rw [HSL.out]; exact hlt)
      subst hsa
      have hsp := HSW.out k (by rw [HSL.out]; exact hlt)
      have HK0 : Hid (rSqK n k 0 = (los n.sp k * los n.sp k, his n.sp k * his n.sp k)) := hide rfl
      clear hin hsc
      generalize los n.sp k = lo at *
      generalize his n.sp k = hi at *
      obtain ⟨p0, p1, p2, p3⟩ := hsp
      have HSQ := hide (fun (W : World) => squared_any lo hi W ⟨p0, p1⟩ ⟨p2, p3⟩)
      clear p0 p1 p2 p3
      go_wp2_with fail
      refine (HSQ.out _).mono ?_
      rintro e W2 ⟨rfl, hb2⟩
      obtain ⟨V3, hV3⟩ : ∃ V3, W2.alloc (.cells #[.int .i64 (lo * lo), .int .i64 (hi * hi)] 53) = V3 := ⟨_, rfl⟩
      have hbv : Below wr.heap.size wr V3 := by rw [← hV3]; exact hb2.alloc hb2.size _
      have k3 : Blk V3 W2.heap.size #[.int .i64 (rSqK n k 0).1, .int .i64 (rSqK n k 0).2] 53 := by rw [← hV3, HK0.out]; exact Blk.new _ _ _
      have HIN2 := hide (HSH.out.kept hbv)
      have hwB : w.heap.size < W2.heap.size := Nat.lt_of_lt_of_le HSH.out.kn.lt hb2.size
      have HOB := hide (show ∀ g, (Value.slice va k vcap).ownBlock = some g → g ≠ W2.heap.size from fun g e => by
        have := (HSH.out.ow.lt g e).2
        have := hb2.size
        omega)
      obtain ⟨n0', n1', _⟩ := HIN2.out.kn.two
      have ln' := HIN2.out.kn.lt
      clear HSQ hb2 hbv n0 n1 ln s0 s1 HSH HK0 hsb
      go_wp2_with fail
      clear n0' n1' ln' hV3
      generalize W2.heap.size = b at *
      go_loopw [9] (fun ix wr2 => ∃ m : Nat, 1 ≤ m ∧ m ≤ N2 ∧ ix = .int .i64 (m : Int) ∧ SqIn w n (some ⟨sb, soff, none⟩) ta sn sc tn tc (.slice va k vcap) k ((List.range k).map (rSq1 n)) wr2 ∧ Blk wr2 b #[.int .i64 (rSqK n k (m - 1)).1, .int .i64 (rSqK n k (m - 1)).2] 53) (fun ix _ => N2 - (intOf ix).toNat)
      case atStart => exact ⟨1, Nat.le_refl _, hN1, rfl, HIN2.out, k3⟩
      case round =>
        rename World => V
        clear k3 HIN2
        obtain ⟨m, hm1, hm2, rfl, hin, kb⟩ := hrel
        have HIN := hide hin
        obtain ⟨n0, n1, _⟩ := hin.kn.two
        have ln := hin.kn.lt
        clear hin
        by_cases hml : m < N2
        · have dlt : decide ((m : Int) < (N2 : Int)) = true := decide_eq_true (by omega)
          have HQ := hide (refEq_any n m (some ⟨sb, soff, none⟩) ta sn sc tn tc V (H.out.below HIN.out.be) hs11 ht5 (by omega))
          have HL := hide (fun h => rEq_len (ts := n.ts) (N := n.sp.length) (m := m) h)
          have HNX := hide (rSqK_next n k hm1)
          have HS : Hid (∀ s, rSqS n k s m = if (rEq n.ts n.sp.length m).2 = false ∨ (rEq n.ts n.sp.length m).1.getD k 0 = 0 then s
            else if 0 < (rEq n.ts n.sp.length m).1.getD k 0 then bothS s (-(reK n.sp (rEq n.ts n.sp.length m).1 k n.sp.length).2, -(reK n.sp (rEq n.ts n.sp.length m).1 k n.sp.length).1)
            else bothS s (reK n.sp (rEq n.ts n.sp.length m).1 k n.sp.length)) := hide fun _ => rfl
          rw [← H.out.hsn] at HL HS
          generalize rSqK n k (m - 1) = S0 at *
          generalize rEq n.ts sn m = R at *
          obtain ⟨cs, bb⟩ := R
          obtain ⟨x0, y0⟩ := S0
          dsimp only at HL HS kb
          go_wp2_with fail
          simp only [hsh]
          clear dlt
          refine HQ.out.mono ?_
          rintro e W5 ⟨v, rfl, hv, hb5⟩
          dsimp only at hv
          have HIN5 := hide (HIN.out.kept hb5)
          have kb5 := kb.kept hb5
          clear HQ hb5 HIN kb n0 n1 ln
          cases bb with
          | false =>
            have HX : Hid (rSqK n k (m + 1 - 1) = (x0, y0)) := hide (by rw [Nat.add_sub_cancel, HNX.out, HS.out, if_pos (.inl rfl)])
            clear hv HS HNX HL
            go_wp2_with fail
            exact ⟨⟨m + 1, by omega, by omega, by go_num, HIN5.out, by rw [HX.out]; exact kb5⟩, by simp [intOf]; omega⟩
          | true =>
            obtain ⟨g, rfl, hgs, hbk⟩ := hv rfl
            have hlen := HL.out rfl
            have hg2 := hbk.lt
            have HSN := hide H.out.hsn
            have HRE := hide (reach_any n cs (k : Int) (some ⟨sb, soff, none⟩) (some ⟨g, 0, none⟩) (.slice ta tn tc) sn sc sn W5 H.out.hsn hs11 HSW.out (H.out.below HIN5.out.be).rs hlen ((row_of_heap hbk (by rw [List.toList_toArray, List.take_length])).mono (by omega)))
            have hrb := reK_B HSW.out cs (k : Int) sn (by rw [HSN.out]; exact Nat.le_refl _)
            obtain ⟨cc0, cf0⟩ := ints_cellR (q := k) hbk (by rw [hlen]; exact hlt)
            have HBK := hide hbk
            obtain ⟨n0, n1, _⟩ := HIN5.out.kn.two
            have ln := HIN5.out.kn.lt
            have hS2 : ∀ s, rSqS n k s m = if cs.getD k 0 = 0 then s else if 0 < cs.getD k 0 then bothS s (-(reK n.sp cs k sn).2, -(reK n.sp cs k sn).1) else bothS s (reK n.sp cs k sn) := fun s => by
              rw [HS.out]; simp
            have HS2 := hide hS2
            clear hv hlen hbk hgs HL HS hS2
            generalize hcd : cs.getD k 0 = c at *
            have HCD := hide hcd
            clear hcd
            by_cases hc0 : c = 0
            · have d0 : (c == 0) = true := by rw [hc0]; rfl
              have HX : Hid (rSqK n k (m + 1 - 1) = (x0, y0)) := hide (by rw [Nat.add_sub_cancel, HNX.out, HS2.out, if_pos hc0])
              clear hc0 HS2 HNX HRE
              go_wp2_with fail
              exact ⟨⟨m + 1, by omega, by omega, by go_num, HIN5.out, by rw [HX.out]; exact kb5⟩, by simp [intOf]; omega⟩
            · have d0 : (c == 0) = false := by rw [beq_eq_false_iff_ne]; exact hc0
              generalize reK n.sp cs (k : Int) sn = T at *
              obtain ⟨u, z⟩ := T
              unfold ReB at hrb
              dsimp only at hrb HRE HS2
              obtain ⟨q0, q1, q2, q3⟩ := hrb
              go_wp2_with fail
              refine HRE.out.mono ?_
              rintro e W6 ⟨rfl, hb6⟩
              obtain ⟨V7, hV7⟩ : ∃ V7, W6.alloc (.cells #[.int .i64 u, .int .i64 z] 53) = V7 := ⟨_, rfl⟩
              have hb7 : Below W5.heap.size W5 V7 := by rw [← hV7]; exact hb6.alloc hb6.size _
              have k7 : Blk V7 W6.heap.size #[.int .i64 u, .int .i64 z] 53 := by rw [← hV7]; exact Blk.new _ _ _
              have kb7 := kb5.kept hb7
              have HIN7 := hide (HIN5.out.kept hb7)
              have hbk7 := HBK.out.kept hb7
              obtain ⟨cc7, cf7⟩ := ints_cellR (q := k) hbk7 (by
                have := cc0
                refine Classical.byContradiction fun hn => ?_
                rw [HBK.out.cell, List.getElem?_toArray, List.getElem?_eq_none (by simp [ints]; omega)] at this
                cases this)
              rw [HCD.out] at cc7
              obtain ⟨t0, t1, _⟩ := k7.two
              have lt7 := k7.lt
              obtain ⟨o0, o1, of0, of1⟩ := kb7.two
              have lo7 := kb7.lt
              have lg7 := hbk7.lt
              clear HRE hb6 hb7 cc0 cf0 n0 n1 ln kb5 HIN5 HBK hbk7 hg2
              by_cases hp : 0 < c
              · have d1 : decide (0 < c) = true := decide_eq_true hp
                have HX : Hid (rSqK n k (m + 1 - 1) = (max x0 (-z), min y0 (-u))) := hide (by rw [Nat.add_sub_cancel, HNX.out, HS2.out, if_neg hc0, if_pos hp]; rfl)
                have w1 : IntKind.i64.wrap (-z) = -z := IntWalk.i64_in _ (by omega)
                have w2 : IntKind.i64.wrap (-u) = -u := IntWalk.i64_in _ (by omega)
                have HIN8 := hide ((HIN7.out.set H.out hwB HOB.out 0 (.int .i64 (max x0 (-z)))).set H.out hwB HOB.out 1 (.int .i64 (min y0 (-u))))
                have kb8 := kb7.set2 (.int .i64 (max x0 (-z))) (.int .i64 (min y0 (-u)))
                clear hc0 hp HS2 HNX HIN7 kb7
                go_wp2_with fail
                exact ⟨⟨m + 1, by omega, by omega, by go_num, HIN8.out, by rw [HX.out]; exact kb8⟩, by simp [intOf]; omega⟩
              · have d1 : decide (0 < c) = false := decide_eq_false hp
                have HX : Hid (rSqK n k (m + 1 - 1) = (max x0 u, min y0 z)) := hide (by rw [Nat.add_sub_cancel, HNX.out, HS2.out, if_neg hc0, if_neg hp]; rfl)
                have HIN8 := hide ((HIN7.out.set H.out hwB HOB.out 0 (.int .i64 (max x0 u))).set H.out hwB HOB.out 1 (.int .i64 (min y0 z)))
                have kb8 := kb7.set2 (.int .i64 (max x0 u)) (.int .i64 (min y0 z))
                clear hc0 hp HS2 HNX HIN7 kb7
                go_wp2_with fail
                exact ⟨⟨m + 1, by omega, by omega, by go_num, HIN8.out, by rw [HX.out]; exact kb8⟩, by simp [intOf]; omega⟩
        · have hme : m = N2 := by omega
          have HQ1 : Hid (rSqK n k (m - 1) = rSq1 n k) := hide (by unfold rSq1; rw [hme, HN2.out, H.out.htn])
          have dlt : decide ((m : Int) < (N2 : Int)) = false := decide_eq_false (by omega)
          rw [HQ1.out] at kb
          have HRA := hide (show (List.range (k + 1)).map (rSq1 n) = (List.range k).map (rSq1 n) ++ [rSq1 n k] by rw [List.range_succ, List.map_append]; rfl)
          generalize rSq1 n k = S at *
          obtain ⟨x, y⟩ := S
          dsimp only at kb
          obtain ⟨o0, o1, _⟩ := kb.two
          have lb := kb.lt
          clear hme HQ1 kb
          go_wp2_with (
            at_builtin
            refine wpList_append_lies _ rfl (.tmp 96) (.tmp 98) 22 rfl (w.heap.size + 1) 53 i0 (.agg #[.int .i64 0, .int .i64 0]) 2 16 under_asps HI.out hz0 hz1 hz2 rfl (by decide) _ k (spans ((List.range k).map (rSq1 n))) rfl (HIN.out.ow.alloc _) ⟨V.heap.size, 0, none⟩ 1 1 [.int .i64 x, .int .i64 y] rfl rfl
              (World.news_of_block (cs := #[.int .i64 x, .int .i64 y]) (t := 53) (fr := (0, 0)) (Blk.newAt (by simp) _ _)) (by intro u hu; simp at hu; rcases hu with rfl | rfl <;> rfl) (by decide) (by unfold maxLen; omega) (by omega) (by simp; omega) _ rfl ?_
            intro g8 cap8 W8 ow8 gr8 at8 lt8)
          have hB8 : Below w.heap.size w W8 := below_own (HIN.out.be.alloc HIN.out.be.size _) (HIN.out.ow.alloc _) (Nat.le_succ _) (by simp; omega) gr8
          have kn8 : Blk W8 w.heap.size #[.slice (some ⟨sb, soff, none⟩) sn sc, .slice ta tn tc] 35 := (gr8.block _ (by simp; omega) (fun e => by have := (HIN.out.ow.lt _ e.symm).1; omega)).trans (HIN.out.kn.alloc _)
          trace_state
          exact ⟨⟨k + 1, by omega, by go_num, ⟨kn8, (H.out.below hB8).rs, by rw [HRA.out, spans_append]; exact ow8, hB8⟩⟩, by simp [intOf]; omega⟩
    · have hkn : k = sn := by omega
      obtain ⟨n0, n1, _⟩ := hin.kn.two
      have ln := hin.kn.lt
      rw [hkn] at hin
      have own' := Go.Joins.ownsRow_le hin.ow (Nat.le_succ w.heap.size)
      obtain ⟨va, cap, rfl, _, _⟩ := own_shape own'
      have hB := hin.be
      have HLN : Hid (sn = ((List.range sn).map (rSq1 n)).length) := hide (by simp)
      clear hkn hin
      go_wp2_with fail
      refine bodyPost_ret (v := .tuple #[.slice va sn cap, .int .i64 0]) (by simp [results, Try.results28, go_sem]) rfl ⟨_, by rw [HF.out], by rw [HF.out]; dsimp only; rw [← HLN.out]; exact own', hB⟩

end Go.Proofs.Ytlbhnicengolfaa

/-! ## RefLe: The reference of total: Lengths. -/
namespace Go.Proofs.Ytlbhnicengolfaa
open Go.RowKit
set_option linter.unusedVariables false
set_option linter.unusedSimpArgs false

def rlS (s : Sp) : Sp := (rt s.1, rtUp s.2)
def RootB (L : List Sp) : Prop := ∀ k, k < L.length → (0 ≤ (L.getD k (0, 0)).1 ∧ (L.getD k (0, 0)).1 ≤ 1125899906842624) ∧ 0 ≤ (L.getD k (0, 0)).2 ∧ (L.getD k (0, 0)).2 ≤ 1125899906842624
theorem sqR_rootB (n : TNet) : RootB (sqR n).1 := fun k hk => by
  unfold sqR at *
  by_cases hc : checkT n = 0
  · have hn := nok_of_check hc
    rw [if_neg (show ¬ checkT n ≠ 0 by simpa using hc)] at *
    cases hok : narOk n.ts (sqs n.sp) with
    | false => rw [hok] at hk; simp at hk
    | true =>
      rw [hok] at hk
      rw [if_pos rfl] at hk ⊢
      dsimp only at hk ⊢
      rw [narT_len, sqs_len] at hk
      have h1 := nar_le (sqs_len n.sp) hok hk
      have h2 := narT_le (nok_frst hn) (ls := sqs n.sp) (by rw [sqs_len]; exact nok_in hn) (k : Int) (by omega)
      rw [spA_nat, spA_nat] at h2
      have h3 := sq_big hn hk
      omega
  · rw [if_pos hc] at hk; simp at hk
theorem rl_is (n : TNet) : ((sqR n).1.map rlS, (sqR n).2) = lenR n := by
  unfold lenR
  refine Prod.ext ?_ rfl
  dsimp only
  refine List.map_congr_left fun s hs => ?_
  obtain ⟨k, hk, rfl⟩ := List.mem_iff_getElem.1 hs
  have := sqR_rootB n k hk
  rw [List.getD_eq_getElem?_getD, List.getElem?_eq_getElem hk, Option.getD_some] at this
  generalize (sqR n).1[k] = s at *
  unfold rlS lenS rootR
  rw [if_neg (by omega), if_neg (by omega)]
def rlArg (B : Nat) (fl ce : Int) (w : World) (v : Value) : Prop := ∃ g, v = .slice (some ⟨g, 0, none⟩) 1 1 ∧ B ≤ g ∧ Blk w g #[.int .i64 fl, .int .i64 ce] 53
theorem rlArg_below {B : Nat} {fl ce : Int} {w w' : World} {v : Value} (h : rlArg B fl ce w v) (hb : Below w.heap.size w w') : rlArg B fl ce w' v := by
  obtain ⟨g, e, h1, h2⟩ := h
  exact ⟨g, e, h1, h2.kept hb⟩
def rlGood (v6 : Value) (lb loff N lc k : Nat) (x y fl ce : Int) (B : Nat) : Nat → World → Value → Prop
  | 0, _, v => v = v6
  | 1, _, v => v = .slice (some ⟨lb, loff, none⟩) N lc
  | 2, _, v => v = .int .i64 (k : Int)
  | 3, _, v => v = .pointer (some ⟨lb, loff + k * 2, none⟩)
  | 4, _, v => v = .pointer (some ⟨lb, loff + k * 2, none⟩)
  | 5, _, v => v = .int .i64 x
  | 6, _, v => v = .int .i64 fl
  | 7, _, v => v = .slice (some ⟨lb, loff, none⟩) N lc
  | 8, _, v => v = .int .i64 (k : Int)
  | 9, _, v => v = .pointer (some ⟨lb, loff + k * 2, none⟩)
  | 10, _, v => v = .pointer (some ⟨lb, loff + k * 2 + 1, none⟩)
  | 11, _, v => v = .int .i64 y
  | 12, _, v => v = .int .i64 ce
  | 13, _, v => v = .agg #[.int .i64 fl, .int .i64 ce]
  | 14, w, v => (rlArg B fl ce) w v
  | _, _, v => v = .bool true
theorem rlGood_below {v6 : Value} {lb loff N lc k : Nat} {x y fl ce : Int} {B : Nat} (i : Nat) (w w' : World) (v : Value) (h : (rlGood v6 lb loff N lc k x y fl ce B) i w v) (hb : Below w.heap.size w w') : (rlGood v6 lb loff N lc k x y fl ce B) i w' v := by
  unfold rlGood at h
  split at h <;> first | exact rlArg_below h hb | exact h | (unfold rlGood; split <;> first | exact h | (exfalso; simp_all))

structure RlIn (w : World) (la : Option Addr) (L : List Sp) (v : Value) (m : Nat) (L' : List Sp) (wr : World) : Prop where
  rl : Row wr w.heap.size la (spans L)
  ow : wr.ownsRow w.heap.size 53 2 v m (spans L')
  be : Below w.heap.size w wr

set_option maxRecDepth 100000 in
set_option maxHeartbeats 8000000 in
theorem refLen_any (n : TNet) (sa ta : Option Addr) (sn sc tn tc : Nat) (w : World) (h : NetIn n sa ta sn tn tc w) :
    Calls Try.prog 30 #[netV sa ta sn sc tn tc] w fun e w' =>
      ∃ v, e = .returned (.tuple #[v, .int .i64 (lenR n).2]) ∧ w'.ownsRow w.heap.size 53 2 v (lenR n).1.length (spans (lenR n).1) ∧ Below w.heap.size w w' := by
  have hb1 : Below w.heap.size w (w.alloc (.cells #[.slice sa sn sc, .slice ta tn tc] 35)) := (Below.refl _ _).alloc (Nat.le_refl _) _
  have kn := Blk.new w #[.slice sa sn sc, .slice ta tn tc] 35
  have HSQ := hide (refSq_any n sa ta sn sc tn tc _ (h.below hb1))
  rw [rSqs_is] at HSQ
  have HL := hide (sqR_len n)
  have HRB := hide (sqR_rootB n)
  have HR : Hid (lenR n = ((sqR n).1.map rlS, (sqR n).2)) := hide (rl_is n).symm
  clear h
  generalize (sqR n).1 = L at *
  generalize (sqR n).2 = E at *
  obtain ⟨n0, n1, _⟩ := kn.two
  have ln := kn.lt
  go_enter Try.func30, Try.ntmps30
  go_wp2_with fail
  refine HSQ.out.mono ?_
  rintro e W2 ⟨v, rfl, own2, hb2⟩
  have hB2 := hb1.trans (hb2.mono hb1.size)
  obtain ⟨la, lc, rfl, hrl⟩ := own_row own2
  obtain ⟨N, hN⟩ : ∃ N, N = L.length := ⟨_, rfl⟩
  rw [← hN]
  have HN := hide hN
  have hN11 : N ≤ 11 := by rw [hN]; exact HL.out
  obtain ⟨i0, hi, hz0, hz1, hz2⟩ := info_asp
  have HI := hide hi
  clear hN own2 hb2 HSQ hb1 n0 n1 ln kn hi HL
  go_wp2_with fail
  go_loopw [6, 7] (fun v i wr => ∃ k : Nat, k ≤ N ∧ i = .int .i64 (k : Int) ∧ RlIn W2 la L v k ((L.take k).map rlS) wr) (fun _ i _ => N - (intOf i).toNat)
  case atStart => exact ⟨0, Nat.zero_le _, rfl, hrl, World.ownsRow_nil _ _ _ _, Below.refl _ _⟩
  case round =>
    clear hrl
    obtain ⟨k, hk, rfl, hin⟩ := hrel
    by_cases hlt : k < N
    · have HSH := hide hin
      obtain ⟨va, vcap, hva, hvc, hvm⟩ := own_shape hin.ow
      subst hva
      have hkl : k < L.length := by rw [← HN.out]; exact hlt
      obtain ⟨lb, loff, hla, hlb, hcl⟩ := hin.rl.span (by omega)
      subst hla
      have hc := hcl k hkl
      have HCL := hide (fun (W : World) (hb : Below wr.heap.size wr W) => show W.cell? ⟨lb, loff + k * 2, none⟩ = some (.int .i64 (L.getD k (0, 0)).1) ∧ W.cell? ⟨lb, loff + k * 2 + 1, none⟩ = some (.int .i64 (L.getD k (0, 0)).2) from ⟨(hb.cell (p := ⟨lb, loff + k * 2, none⟩) (Nat.lt_of_lt_of_le hlb HSH.out.be.size)).trans hc.1, (hb.cell (p := ⟨lb, loff + k * 2 + 1, none⟩) (Nat.lt_of_lt_of_le hlb HSH.out.be.size)).trans hc.2⟩)
      have hrb := HRB.out k hkl
      have HFL := hide (fun (W : World) => floor_any (L.getD k (0, 0)).1 hrb.1.1 hrb.1.2 W)
      have HCE := hide (fun (W : World) => ceiling_any (L.getD k (0, 0)).2 hrb.2.1 hrb.2.2 W)
      have HTK := hide (show (L.take (k + 1)).map rlS = (L.take k).map rlS ++ [(rt (L.getD k (0, 0)).1, rtUp (L.getD k (0, 0)).2)] by rw [span_take hkl, List.map_append]; rfl)
      clear hin hc hcl hrb hkl
      generalize L.getD k (0, 0) = S at *
      obtain ⟨x, y⟩ := S
      dsimp only at HCL HFL HCE HTK
      generalize rt x = fl at *
      generalize rtUp y = ce at *
      have ik : (k : Int) < (N : Int) := by omega
      have hbl := HSH.out.be.size
      go_wp2_with fail
      refine wp_region_monoF wr _ 15 (rlGood (.slice va k vcap) lb loff N lc k x y fl ce wr.heap.size) (n := 37) (by kernel_rfl) (by decide +kernel) rfl rlGood_below ?steps ?_
      case steps =>
        refine ⟨?_, ?_, ?_, ?_, ?_, ?_, ?_, ?_, ?_, ?_, ?_, ?_, ?_, ?_, ?_, trivial⟩
        · intro a w' h
          have e6 : a.tmps.getD 6 undef = .slice va k vcap := h.old 6 rfl
          refine ⟨wanted_none rfl, ?_⟩
          simp at e6
          clear h
          go_simp
          exact ⟨Below.refl _ _, rfl⟩
        · intro a w' h
          have e4 : a.tmps.getD 4 undef = .slice (some ⟨lb, loff, none⟩) N lc := h.old 4 rfl
          refine ⟨wanted_none rfl, ?_⟩
          simp at e4
          clear h
          go_simp
          exact ⟨Below.refl _ _, rfl⟩
        · intro a w' h
          have e7 : a.tmps.getD 7 undef = .int .i64 (k : Int) := h.old 7 rfl
          refine ⟨wanted_none rfl, ?_⟩
          simp at e7
          clear h
          go_simp
          exact ⟨Below.refl _ _, rfl⟩
        · intro a w' h
          have e20 : a.tmps.getD 20 undef = .slice (some ⟨lb, loff, none⟩) N lc := h.val 1 20 rfl rfl
          have e21 : a.tmps.getD 21 undef = .int .i64 (k : Int) := h.val 2 21 rfl rfl
          refine ⟨wanted_none rfl, ?_⟩
          simp at e20 e21
          clear h
          go_simp
          exact ⟨Below.refl _ _, rfl⟩
        · intro a w' h
          have e22 : a.tmps.getD 22 undef = .pointer (some ⟨lb, loff + k * 2, none⟩) := h.val 3 22 rfl rfl
          refine ⟨wanted_none rfl, ?_⟩
          simp at e22
          clear h
          go_simp
          exact ⟨Below.refl _ _, rfl⟩
        · intro a w' h
          have e23 : a.tmps.getD 23 undef = .pointer (some ⟨lb, loff + k * 2, none⟩) := h.val 4 23 rfl rfl
          refine ⟨wanted_none rfl, ?_⟩
          simp at e23
          have q := HCL.out w' h.be
          clear h
          go_simp
          exact ⟨Below.refl _ _, rfl⟩
        · intro a w' h
          have e24 : a.tmps.getD 24 undef = .int .i64 x := h.val 5 24 rfl rfl
          refine ⟨wanted_none rfl, ?_⟩
          simp at e24
          clear h
          go_simp
          exact (HFL.out w').mono fun e w'' ⟨he, hb⟩ => ⟨_, he, hb ▸ Below.refl _ _, rfl⟩
        · intro a w' h
          have e4 : a.tmps.getD 4 undef = .slice (some ⟨lb, loff, none⟩) N lc := h.old 4 rfl
          refine ⟨wanted_none rfl, ?_⟩
          simp at e4
          clear h
          go_simp
          exact ⟨Below.refl _ _, rfl⟩
        · intro a w' h
          have e7 : a.tmps.getD 7 undef = .int .i64 (k : Int) := h.old 7 rfl
          refine ⟨wanted_none rfl, ?_⟩
          simp at e7
          clear h
          go_simp
          exact ⟨Below.refl _ _, rfl⟩
        · intro a w' h
          have e26 : a.tmps.getD 26 undef = .slice (some ⟨lb, loff, none⟩) N lc := h.val 7 26 rfl rfl
          have e27 : a.tmps.getD 27 undef = .int .i64 (k : Int) := h.val 8 27 rfl rfl
          refine ⟨wanted_none rfl, ?_⟩
          simp at e26 e27
          clear h
          go_simp
          exact ⟨Below.refl _ _, rfl⟩
        · intro a w' h
          have e28 : a.tmps.getD 28 undef = .pointer (some ⟨lb, loff + k * 2, none⟩) := h.val 9 28 rfl rfl
          refine ⟨wanted_none rfl, ?_⟩
          simp at e28
          clear h
          go_simp
          exact ⟨Below.refl _ _, rfl⟩
        · intro a w' h
          have e29 : a.tmps.getD 29 undef = .pointer (some ⟨lb, loff + k * 2 + 1, none⟩) := h.val 10 29 rfl rfl
          refine ⟨wanted_none rfl, ?_⟩
          simp at e29
          have q := HCL.out w' h.be
          clear h
          go_simp
          exact ⟨Below.refl _ _, rfl⟩
        · intro a w' h
          have e30 : a.tmps.getD 30 undef = .int .i64 y := h.val 11 30 rfl rfl
          refine ⟨wanted_none rfl, ?_⟩
          simp at e30
          clear h
          go_simp
          exact (HCE.out w').mono fun e w'' ⟨he, hb⟩ => ⟨_, he, hb ▸ Below.refl _ _, rfl⟩
        · intro a w' h
          have e25 : a.tmps.getD 25 undef = .int .i64 fl := h.val 6 25 rfl rfl
          have e31 : a.tmps.getD 31 undef = .int .i64 ce := h.val 12 31 rfl rfl
          refine ⟨wanted_none rfl, ?_⟩
          simp at e25 e31
          clear h
          go_simp
          exact ⟨Below.refl _ _, rfl⟩
        · intro a w' h
          have e32 : a.tmps.getD 32 undef = .agg #[.int .i64 fl, .int .i64 ce] := h.val 13 32 rfl rfl
          refine ⟨wanted_none rfl, ?_⟩
          simp at e32
          have hbs := h.be.size
          clear h
          go_simp
          exact ⟨(Below.refl _ _).alloc (Nat.le_refl _) _, ⟨_, rfl, hbs, Blk.new _ _ _⟩⟩
      intro vs w2 hb2 hv
      have v0 := hv 0 (by omega)
      have v1 := hv 1 (by omega)
      have v2 := hv 2 (by omega)
      have v3 := hv 3 (by omega)
      have v4 := hv 4 (by omega)
      have v5 := hv 5 (by omega)
      have v6 := hv 6 (by omega)
      have v7 := hv 7 (by omega)
      have v8 := hv 8 (by omega)
      have v9 := hv 9 (by omega)
      have v10 := hv 10 (by omega)
      have v11 := hv 11 (by omega)
      have v12 := hv 12 (by omega)
      have v13 := hv 13 (by omega)
      obtain ⟨g14, v14, hg14, k14⟩ := hv 14 (by omega)
      simp only [rlGood] at v0 v1 v2 v3 v4 v5 v6 v7 v8 v9 v10 v11 v12 v13
      simp only [List.take_succ_cons, List.take_zero, List.drop_succ_cons, List.drop_zero, putSeq, Act.put, List.setIfInBounds_toArray, List.set_cons_zero, List.set_cons_succ, v0, v1, v2, v3, v4, v5, v6, v7, v8, v9, v10, v11, v12, v13, v14, Nat.reduceAdd]
      clear hv v0 v1 v2 v3 v4 v5 v6 v7 v8 v9 v10 v11 v12 v13 v14
      have hs2 := hb2.size
      go_wp2_with (
        at_builtin
        refine wpList_append_lies _ rfl (.tmp 19) (.tmp 33) 22 rfl W2.heap.size 53 i0 (.agg #[.int .i64 0, .int .i64 0]) 2 16 under_asps HI.out hz0 hz1 hz2 rfl (by decide) _ k (spans ((L.take k).map rlS)) rfl (own_kept HSH.out.ow hb2) ⟨g14, 0, none⟩ 1 1 [.int .i64 fl, .int .i64 ce] rfl rfl
          (World.news_of_block (cs := #[.int .i64 fl, .int .i64 ce]) (t := 53) (fr := (0, 0)) k14) (by intro u hu; simp at hu; rcases hu with rfl | rfl <;> rfl) (by decide) (by unfold maxLen; omega) (by omega) (by omega) _ rfl ?_
        intro g8 cap8 W8 ow8 gr8 at8 lt8)
      have hB9 : Below W2.heap.size w2 W8 := below_own (Below.refl _ _) (own_kept HSH.out.ow hb2) (Nat.le_refl _) (by omega) gr8
      have hB8 : Below W2.heap.size W2 W8 := (HSH.out.be.trans (hb2.mono HSH.out.be.size)).trans hB9
      have hrl8 : Row W8 W2.heap.size (some ⟨lb, loff, none⟩) (spans L) := (HSH.out.rl.below (hb2.mono HSH.out.be.size) (Nat.le_refl _)).below hB9 (Nat.le_refl _)
      exact ⟨⟨k + 1, by omega, by go_num, ⟨hrl8, by rw [HTK.out, spans_append]; exact ow8, hB8⟩⟩, by simp [intOf]; omega⟩
    · have hkn : k = N := by omega
      have HF2 : Hid (lenR n = ((L.take N).map rlS, E)) := hide (by rw [HR.out, List.take_of_length_le (by rw [HN.out]; exact Nat.le_refl _)])
      have HLN : Hid (N = ((L.take N).map rlS).length) := hide (by rw [List.length_map, List.length_take, HN.out]; omega)
      rw [hkn] at hin
      have own' := Go.Joins.ownsRow_le hin.ow hB2.size
      obtain ⟨va, cap, rfl, _, _⟩ := own_shape own'
      have hB := hB2.trans (hin.be.mono hB2.size)
      clear hkn hin
      go_wp2_with fail
      refine bodyPost_ret (v := .tuple #[.slice va N cap, .int .i64 E]) (by simp [results, Try.results30, go_sem]) rfl ⟨_, by rw [HF2.out], by rw [HF2.out]; dsimp only; rw [← HLN.out]; exact own', hB⟩

end Go.Proofs.Ytlbhnicengolfaa

/-! ## SquW: TotalSquares: Holds of the reference, and the walk. -/
namespace Go.Proofs.Ytlbhnicengolfaa
open Go.RowKit
set_option linter.unusedVariables false
set_option linter.unusedSimpArgs false

structure HoIn (w : World) (n : TNet) (sa ta : Option Addr) (sn sc tn tc : Nat) (xa : Option Addr) (xs : List Int) (wr : World) : Prop where
  kn : Blk wr w.heap.size #[.slice sa sn sc, .slice ta tn tc] 35
  net : NetIn n sa ta sn tn tc wr
  rx : Row wr wr.heap.size xa (ints xs)
  be : Below w.heap.size w wr
theorem HoIn.kept {w : World} {n : TNet} {sa ta xa : Option Addr} {sn sc tn tc : Nat} {xs : List Int} {wr W : World} (h : HoIn w n sa ta sn sc tn tc xa xs wr) (hb : Below wr.heap.size wr W) : HoIn w n sa ta sn sc tn tc xa xs W :=
  ⟨h.kn.kept hb, h.net.below hb, row_keep h.rx hb, h.be.trans (hb.mono h.be.size)⟩
/-- Squares that are a truth. -/
structure HoOk (n : TNet) (xs : List Int) : Prop where
  len : xs.length = n.sp.length
  sp : ∀ k, k < n.sp.length → los n.sp k * los n.sp k ≤ iat xs k ∧ iat xs k ≤ his n.sp k * his n.sp k
  tr : ∀ k, k < n.ts.length → iat xs (tri n.ts k).1.toNat + iat xs (tri n.ts k).2.1.toNat = iat xs (tri n.ts k).2.2.toNat

set_option maxRecDepth 100000 in
set_option maxHeartbeats 8000000 in
theorem holds_any (n : TNet) (xs : List Int) (sa ta xa : Option Addr) (sn sc tn tc xc : Nat) (w : World) (h : NetIn n sa ta sn tn tc w) (hn : NOk n) (hrx : Row w w.heap.size xa (ints xs)) (ho : HoOk n xs) (hxc : sn ≤ xc) (hxc2 : xc ≤ 9223372036854775807) :
    Calls Try.prog 33 #[netV sa ta sn sc tn tc, .slice xa sn xc] w fun e w' => e = .returned (.bool true) ∧ Below w.heap.size w w' := by
  have hb1 : Below w.heap.size w (w.alloc (.cells #[.slice sa sn sc, .slice ta tn tc] 35)) := (Below.refl _ _).alloc (Nat.le_refl _) _
  have hin0 : HoIn w n sa ta sn sc tn tc xa xs (w.alloc (.cells #[.slice sa sn sc, .slice ta tn tc] 35)) := ⟨Blk.new w _ _, h.below hb1, row_keep hrx hb1, hb1⟩
  have HN := hide hn
  have HO := hide ho
  have HSL := hide h.hsn
  have HTL := hide h.htn
  have htc := h.htc
  have htc2 := h.htc2
  have hs11 : sn ≤ 11 := by have := h.hsn; have := hn.l2; omega
  have ht5 : tn ≤ 5 := by have := h.htn; have := hn.l3; omega
  have HIN0 := hide hin0
  obtain ⟨n0, n1, _⟩ := hin0.kn.two
  have ln := hin0.kn.lt
  clear h hrx ho hb1 hn hin0
  go_enter Try.func33, Try.ntmps33
  go_wp2_with fail
  clear n0 n1 ln
  generalize World.alloc w _ = V0 at *
  go_loopw [5] (fun i wr => ∃ k : Nat, k ≤ sn ∧ i = .int .i64 (k : Int) ∧ HoIn w n sa ta sn sc tn tc xa xs wr) (fun i _ => sn - (intOf i).toNat)
  case atStart => exact ⟨0, Nat.zero_le _, rfl, HIN0.out⟩
  case round =>
    clear HIN0
    obtain ⟨k, hk, rfl, hin⟩ := hrel
    have HIN := hide hin
    obtain ⟨n0, n1, _⟩ := hin.kn.two
    have ln := hin.kn.lt
    by_cases hlt : k < sn
    · obtain ⟨sb, soff, hsa, hsb, hsc⟩ := hin.net.rs.span (by rw [← HSL.out]; omega)
      obtain ⟨s0, s1⟩ := hsc k (by rw [← HSL.out]; exact hlt)
      obtain ⟨xb, xoff, hxa, hxb, hxcl⟩ := hin.rx.int (by rw [HO.out.len, ← HSL.out]; omega)
      have hx0 := hxcl k (by rw [HO.out.len, ← HSL.out]; exact hlt)
      subst hsa hxa
      have hsp := HO.out.sp k (by rw [← HSL.out]; exact hlt)
      have hw := nok_spw HN.out k (by rw [← HSL.out]; exact hlt)
      clear hin hsc hxcl
      generalize los n.sp k = lo at *
      generalize his n.sp k = hi at *
      generalize iat xs k = x at *
      obtain ⟨p0, p1, p2, p3⟩ := hw
      have HSQ := hide (fun (W : World) => squared_any lo hi W ⟨p0, p1⟩ ⟨p2, p3⟩)
      have HX := hide hsp
      have ik : (k : Int) < (sn : Int) := by omega
      clear p0 p1 p2 p3 hsp
      go_wp2_with fail
      refine (HSQ.out _).mono ?_
      rintro e W2 ⟨rfl, hb2⟩
      generalize lo * lo = u at *
      generalize hi * hi = z at *
      obtain ⟨V3, hV3⟩ : ∃ V3, W2.alloc (.cells #[.int .i64 u, .int .i64 z] 53) = V3 := ⟨_, rfl⟩
      have hbv : Below wr.heap.size wr V3 := by rw [← hV3]; exact hb2.alloc hb2.size _
      have k3 : Blk V3 W2.heap.size #[.int .i64 u, .int .i64 z] 53 := by rw [← hV3]; exact Blk.new _ _ _
      have HIN2 := hide (HIN.out.kept hbv)
      obtain ⟨t0, t1, _⟩ := k3.two
      have lt := k3.lt
      have x1 : V3.cell? ⟨xb, xoff + k, none⟩ = some (.int .i64 x) := (hbv.cell (p := ⟨xb, xoff + k, none⟩) hxb).trans hx0
      have hxb3 : xb < V3.heap.size := Nat.lt_of_lt_of_le hxb hbv.size
      have hX := @Ext.cell V3
      have HIS := hide (fun X : Ext V3 => Ext.call (W := V3) (is_below x u z X.w))
      rw [decide_eq_true HX.out.1, decide_eq_true HX.out.2] at HIS
      clear HSQ hb2 hbv k3 HIN n0 n1 ln s0 s1 hsb hx0 hxb HX
      go_wp2_with fail
      refine wp_region_all (Ext.w (W := V3)) (by kernel_rfl) (by kernel_rfl) (Ext.start V3) ?_
      repeat (first | go_big_quiet_skip | quiet_step (first | (go_at_call 46; with_reducible exact HIS.out _)))
      refine wpQuiet_nil ?_
      intro X
      have hin3 := HIN2.out.kept X.below
      go_wp2_with fail
      exact ⟨⟨k + 1, by omega, by go_num, hin3⟩, by simp [intOf]; omega⟩
    · clear hin
      go_wp2_with fail
      clear n0 n1 ln
      go_loopw [7] (fun i wr => ∃ k : Nat, k ≤ tn ∧ i = .int .i64 (k : Int) ∧ HoIn w n sa ta sn sc tn tc xa xs wr) (fun i _ => tn - (intOf i).toNat)
      case atStart => exact ⟨0, Nat.zero_le _, rfl, HIN.out⟩
      case round =>
        rename World => V
        clear HIN
        obtain ⟨j, hj, rfl, hin⟩ := hrel
        have HIN := hide hin
        obtain ⟨n0, n1, _⟩ := hin.kn.two
        have ln := hin.kn.lt
        by_cases hjt : j < tn
        · have hjl : j < n.ts.length := by rw [← HTL.out]; exact hjt
          obtain ⟨tb, toff, hta, htb, hcell⟩ := hin.net.rt.tri (by omega)
          obtain ⟨c0, c1, c2⟩ := hcell j hjl
          have hs1 : 0 < xs.length := by rw [HO.out.len]; exact HN.out.l1
          obtain ⟨xb, xoff, hxa, hxb, hxcl⟩ := hin.rx.int hs1
          have htr := HO.out.tr j hjl
          have hin3 := nok_in HN.out (tri n.ts j) (by rw [tri_eq hjl]; exact List.getElem_mem _)
          generalize tri n.ts j = t at *
          obtain ⟨a, b, c⟩ := t
          dsimp only at c0 c1 c2 htr
          have ha := hin3 a (by simp [cor])
          have hb := hin3 b (by simp [cor])
          have hc := hin3 c (by simp [cor])
          obtain ⟨a, rfl⟩ : ∃ m : Nat, a = (m : Int) := ⟨a.toNat, by omega⟩
          obtain ⟨b, rfl⟩ : ∃ m : Nat, b = (m : Int) := ⟨b.toNat, by omega⟩
          obtain ⟨c, rfl⟩ : ∃ m : Nat, c = (m : Int) := ⟨c.toNat, by omega⟩
          rw [← HSL.out] at ha hb hc
          have la : a < sn := by omega
          have lb : b < sn := by omega
          have lc : c < sn := by omega
          have xa0 := hxcl a (by rw [HO.out.len, ← HSL.out]; exact la)
          have xb0 := hxcl b (by rw [HO.out.len, ← HSL.out]; exact lb)
          have xc0 := hxcl c (by rw [HO.out.len, ← HSL.out]; exact lc)
          simp only [Int.toNat_natCast] at htr
          have bnd : ∀ q : Nat, q < sn → 0 ≤ iat xs q ∧ iat xs q ≤ 100000000 := fun q hq => by
            have h1 := HO.out.sp q (by rw [← HSL.out]; exact hq)
            have h2 := HN.out.sp q (by rw [← HSL.out]; exact hq)
            have h3 := Int.mul_nonneg h2.1 h2.1
            have h4 := sq_mono (a := his n.sp q) (b := 10000) (by omega) h2.2.2
            omega
          have ba := bnd a la
          have bb := bnd b lb
          subst hta hxa
          clear hin hcell hjl hs1 hxcl hin3 bnd ha hb hc
          generalize iat xs a = p at *
          generalize iat xs b = q at *
          generalize iat xs c = r at *
          have w1 : IntKind.i64.wrap (p + q) = p + q := IntWalk.i64_in _ (by omega)
          have d1 : (p + q != r) = false := by rw [htr]; simp
          have ia : (a : Int) < (sn : Int) := by omega
          have ib : (b : Int) < (sn : Int) := by omega
          have ic : (c : Int) < (sn : Int) := by omega
          have ij : (j : Int) < (tn : Int) := by omega
          obtain ⟨V3, hV3⟩ : ∃ V3, V.alloc (.cells #[.int .i64 (a : Int), .int .i64 (b : Int), .int .i64 (c : Int)] 89) = V3 := ⟨_, rfl⟩
          have hbv : Below V.heap.size V V3 := by rw [← hV3]; exact (Below.refl _ _).alloc (Nat.le_refl _) _
          have k3 : Blk V3 V.heap.size #[.int .i64 (a : Int), .int .i64 (b : Int), .int .i64 (c : Int)] 89 := by rw [← hV3]; exact Blk.new _ _ _
          have HIN2 := hide (HIN.out.kept hbv)
          obtain ⟨t0, t1, t2, _⟩ := k3.three
          have lt := k3.lt
          have xa1 : V3.cell? ⟨xb, xoff + a, none⟩ = some (.int .i64 p) := (hbv.cell (p := ⟨xb, xoff + a, none⟩) hxb).trans xa0
          have xb1 : V3.cell? ⟨xb, xoff + b, none⟩ = some (.int .i64 q) := (hbv.cell (p := ⟨xb, xoff + b, none⟩) hxb).trans xb0
          have xc1 : V3.cell? ⟨xb, xoff + c, none⟩ = some (.int .i64 r) := (hbv.cell (p := ⟨xb, xoff + c, none⟩) hxb).trans xc0
          have hxb3 : xb < V3.heap.size := Nat.lt_of_lt_of_le hxb hbv.size
          clear htr HIN k3 hbv
          go_wp2_with fail
          clear n0 n1 ln c0 c1 c2 hV3 xa0 xb0 xc0 hxb htb
          go_quiet (fail)
          go_wp2_with fail
          have hin4 := HIN2.out
          exact ⟨⟨j + 1, by omega, by go_num, hin4.kept (by first | exact Below.drewN _ | exact below_drewN (Below.refl _ _) _)⟩, by simp [intOf]; omega⟩
        · have hB := hin.be
          clear hin
          go_wp2_with fail
          exact bodyPost_ret (v := .bool true) (by simp [results, Try.results33, go_sem]) rfl ⟨rfl, hB⟩

theorem own_full {w : World} {B s M : Nat} {e : TypeId} {v : Value} {vs : List Value} (h : w.ownsRow B e s v M vs) : ∃ a cap, v = .slice a M cap ∧ Row w w.heap.size a vs ∧ M ≤ cap ∧ cap ≤ 9223372036854775807 := by
  obtain ⟨a, cap, rfl, h1, h2⟩ := own_shape h
  obtain ⟨a', cap', e, hr⟩ := own_row h
  cases e
  unfold maxLen at h2
  exact ⟨a, cap, rfl, hr, h1, by omega⟩
theorem sqR_ok {n : TNet} (h : (sqR n).2 = 0) : checkT n = 0 ∧ narOk n.ts (sqs n.sp) = true ∧ (sqR n).1 = narT n.ts (sqs n.sp) := by
  unfold sqR at *
  by_cases hc : checkT n = 0
  · rw [if_neg (show ¬ checkT n ≠ 0 by simpa using hc)] at *
    cases hok : narOk n.ts (sqs n.sp) with
    | false => rw [hok] at h; simp at h
    | true => rw [if_pos rfl]; exact ⟨hc, rfl, rfl⟩
  · rw [if_pos hc] at h; exact absurd h hc
/-- What Truth returns, where the quantity is one. -/
theorem tru_case {n : TNet} (h : (sqR n).2 = 0) {q : Nat} (hq : q < n.sp.length) (high : Bool) : (truR n q high).2 = 0 ∧ HoOk n (truR n q high).1 ∧ iat (truR n q high).1 q = if high then his (sqR n).1 q else los (sqR n).1 q := by
  obtain ⟨hc, hok, hs⟩ := sqR_ok h
  have hn := nok_of_check hc
  obtain ⟨⟨x, hx, _, hr, hxq⟩, _⟩ := truth_ok hn hc hok hq high
  rw [hr]
  have hi : ∀ k : Nat, k < n.sp.length → iat ((List.range n.sp.length).map fun i : Nat => x i) k = x k := fun k hk => by
    rw [iat_eq _ _ (by simpa using hk), List.getElem_map, List.getElem_range]
  refine ⟨rfl, ⟨by simp, fun k hk => ?_, fun k hk => ?_⟩, ?_⟩
  · rw [hi k hk]
    have := hx.sp (k : Int) (by omega) (by rw [sqs_len]; omega)
    rw [spA_nat, sqs_at hk] at this
    exact this
  · have hin := nok_in hn (tri n.ts k) (by rw [tri_eq hk]; exact List.getElem_mem _)
    have ha := hin (tri n.ts k).1 (by simp [cor])
    have hb := hin (tri n.ts k).2.1 (by simp [cor])
    have hw := hin (tri n.ts k).2.2 (by simp [cor])
    have ht := hx.tr (tri n.ts k) (by rw [tri_eq hk]; exact List.getElem_mem _)
    unfold Hl at ht
    rw [hi _ (by omega), hi _ (by omega), hi _ (by omega)]
    rw [show (((tri n.ts k).1.toNat : Nat) : Int) = (tri n.ts k).1 by omega, show (((tri n.ts k).2.1.toNat : Nat) : Int) = (tri n.ts k).2.1 by omega, show (((tri n.ts k).2.2.toNat : Nat) : Int) = (tri n.ts k).2.2 by omega]
    exact ht
  · rw [hi q hq, hxq, hs]
    rfl
theorem truR_no {n : TNet} (h : (sqR n).2 ≠ 0) (q : Int) (high : Bool) : truR n q high = ([], (sqR n).2) := by unfold truR; rw [if_pos h]
theorem truR_out {n : TNet} (h : (sqR n).2 = 0) {q : Int} (hq : q < 0 ∨ (n.sp.length : Int) ≤ q) (high : Bool) : truR n q high = ([], 6) := by unfold truR; rw [if_neg (by simpa using h), if_pos hq]
theorem lenR_len (n : TNet) : (lenR n).1.length = (sqR n).1.length ∧ (lenR n).2 = (sqR n).2 := by unfold lenR; simp
theorem truR_len (n : TNet) (q : Int) (high : Bool) (h : (sqR n).2 = 0 → 0 ≤ q → q < (n.sp.length : Int) → (truR n q high).1.length = n.sp.length) : (truR n q high).1.length ≤ 1000000000 := by
  by_cases h0 : (sqR n).2 = 0
  · by_cases hq : q < 0 ∨ (n.sp.length : Int) ≤ q
    · rw [truR_out h0 hq]; simp
    · rw [h h0 (by omega) (by omega)]
      have := (nok_of_check (sqR_ok h0).1).l2
      omega
  · rw [truR_no h0]; simp

set_option maxRecDepth 100000 in
set_option maxHeartbeats 16000000 in
theorem squares_law (n : TNet) (q : Int) (high : Bool) (sa ta : Option Addr) (sn sc tn tc : Nat) (w : World) (h : NetArg n sa ta sn tn tc w) :
    Calls Try.prog 5 #[netV sa ta sn sc tn tc, .int .i64 q, .bool high] w fun e w' => e = .returned (.bool true) ∧ Below w.heap.size w w' := by
  have H := hide h
  have HLG := hide (fun W => large_any n sa ta sn sc tn tc W)
  have hk := Blk.new w #[.slice sa sn sc, .slice ta tn tc] 25
  have hb1 : Below w.heap.size w (w.alloc (.cells #[.slice sa sn sc, .slice ta tn tc] 25)) := (Below.refl _ _).alloc (Nat.le_refl _) _
  clear h
  go_enter Try.func5, Try.ntmps5
  by_cases hlg : (decide (40 < sn) || decide (40 < tn)) = true
  · rw [hlg] at HLG
    clear hlg
    go_wp2_with fail
    refine (HLG.out _).mono ?_
    rintro e W1 ⟨rfl, hb2⟩
    have hB := hb1.trans (hb2.mono hb1.size)
    go_wp2_with fail
    refine (works_any _).mono ?_
    rintro e W9 ⟨rfl, hb9⟩
    go_wp2_with fail
    go_ret
    exact ⟨rfl, hB.trans (hb9.mono hB.size)⟩
  have hs40 : ¬ 40 < sn := fun h => hlg (by simp [h])
  have ht40 : ¬ 40 < tn := fun h => hlg (by simp [h])
  have hlg' : (decide (40 < sn) || decide (40 < tn)) = false := by simpa using hlg
  rw [hlg'] at HLG
  have HN := hide (H.out.small hs40 ht40)
  have HT40 := hide (show tn ≤ 40 by omega)
  clear hlg hlg' hs40 ht40 H
  go_wp2_with fail
  refine (HLG.out _).mono ?_
  rintro e W1 ⟨rfl, hb2⟩
  have hB := hb1.trans (hb2.mono hb1.size)
  have hk1 := hk.kept hb2
  clear hb1 hb2 hk
  obtain ⟨n0, n1, _⟩ := hk1.two
  have ln0 := hk1.lt
  go_wp2_with fail
  refine (given_any n sa ta sn sc tn tc W1 (HN.out.below hB) HT40.out).mono ?_
  rintro e W2 ⟨a', tc', rfl, hn2, hb2⟩
  obtain ⟨V3, hV3⟩ : ∃ V3, W2.alloc (.cells #[.slice sa sn sc, .slice a' tn tc'] 35) = V3 := ⟨_, rfl⟩
  have hb3 : Below W2.heap.size W2 V3 := by rw [← hV3]; exact (Below.refl _ _).alloc (Nat.le_refl _) _
  have k3 : Blk V3 W2.heap.size #[.slice sa sn sc, .slice a' tn tc'] 35 := by rw [← hV3]; exact Blk.new _ _ _
  have hk2 := (hk1.kept hb2).kept hb3
  have hB2 := hB.trans (hb2.mono hB.size)
  have hB3 := hB2.trans (hb3.mono hB2.size)
  have hnr := hn2.below hb3
  clear hk1 n0 n1 ln0 hB hb2 hn2 hb3 hB2 HLG
  obtain ⟨n0, n1, _⟩ := hk2.two
  have ln0 := hk2.lt
  obtain ⟨m0, m1, _⟩ := k3.two
  have lm0 := k3.lt
  go_wp2_with fail
  refine (squares_any n sa ta sn sc tn tc _ (HN.out.below hB3)).mono ?_
  rintro e W4 ⟨v4, rfl, ho4, hb4⟩
  obtain ⟨a4, c4, rfl, hr4⟩ := own_row ho4
  have HR4 := hide hr4
  have hk4 := hk2.kept hb4
  have k4 := k3.kept hb4
  have hB4 := hB3.trans (hb4.mono hB3.size)
  have hn4 := hnr.below hb4
  clear hk2 k3 hnr n0 n1 ln0 m0 m1 lm0 hB3 hb4 hr4 ho4 hV3
  obtain ⟨n0, n1, _⟩ := hk4.two
  have ln0 := hk4.lt
  obtain ⟨m0, m1, _⟩ := k4.two
  have lm0 := k4.lt
  go_wp2_with fail
  refine (refSq_any n sa a' sn sc tn tc' _ hn4).mono ?_
  rintro e W5 ⟨v5, rfl, ho5, hb5⟩
  rw [rSqs_is] at ho5 ⊢
  obtain ⟨a5, c5, rfl, hr5, hc5, hc5'⟩ := own_full ho5
  have HR5 := hide hr5
  have HR4' := hide (row_keep HR4.out hb5)
  have hk5 := hk4.kept hb5
  have k5 := k4.kept hb5
  have hB5 := hB4.trans (hb5.mono hB4.size)
  have hn5 := hn4.below hb5
  clear hk4 k4 hn4 n0 n1 ln0 m0 m1 lm0 hB4 hb5 HR4 hr5 ho5
  obtain ⟨n0, n1, _⟩ := hk5.two
  have ln0 := hk5.lt
  obtain ⟨m0, m1, _⟩ := k5.two
  have lm0 := k5.lt
  go_wp2_with fail
  refine (lengths_any n sa ta sn sc tn tc _ (HN.out.below hB5)).mono ?_
  rintro e W6 ⟨v6, rfl, ho6, hb6⟩
  obtain ⟨a6, c6, rfl, hr6⟩ := own_row ho6
  have HR6 := hide hr6
  have HR46 := hide (row_keep HR4'.out hb6)
  have HR56 := hide (row_keep HR5.out hb6)
  have hk6 := hk5.kept hb6
  have k6 := k5.kept hb6
  have hB6 := hB5.trans (hb6.mono hB5.size)
  have hn6 := hn5.below hb6
  clear hk5 k5 hn5 n0 n1 ln0 m0 m1 lm0 hB5 hb6 HR4' HR5 hr6 ho6
  obtain ⟨n0, n1, _⟩ := hk6.two
  have ln0 := hk6.lt
  obtain ⟨m0, m1, _⟩ := k6.two
  have lm0 := k6.lt
  go_wp2_with fail
  refine (refLen_any n sa a' sn sc tn tc' _ hn6).mono ?_
  rintro e W7 ⟨v7, rfl, ho7, hb7⟩
  obtain ⟨a7, c7, rfl, hr7⟩ := own_row ho7
  have HR7 := hide hr7
  have HR47 := hide (row_keep HR46.out hb7)
  have HR57 := hide (row_keep HR56.out hb7)
  have HR67 := hide (row_keep HR6.out hb7)
  have hk7 := hk6.kept hb7
  have k7 := k6.kept hb7
  have hB7 := hB6.trans (hb7.mono hB6.size)
  have hn7 := hn6.below hb7
  clear hk6 k6 hn6 n0 n1 ln0 m0 m1 lm0 hB6 hb7 HR46 HR56 HR6 hr7 ho7
  obtain ⟨n0, n1, _⟩ := hk7.two
  have ln0 := hk7.lt
  obtain ⟨m0, m1, _⟩ := k7.two
  have lm0 := k7.lt
  have HTL := hide (truR_len n q high (fun h0 q0 q1 => by
    obtain ⟨k, rfl⟩ : ∃ k : Nat, q = (k : Int) := ⟨q.toNat, by omega⟩
    exact (tru_case h0 (by omega) high).2.1.len))
  go_wp2_with fail
  refine (truth_any n q high sa ta sn sc tn tc _ (HN.out.below hB7) (fun h0 q0 q1 => by
    obtain ⟨hc, hok, _⟩ := sqR_ok h0
    exact (truth_ok (nok_of_check hc) hc hok (show q.toNat < n.sp.length by omega) high).hb)).mono ?_
  rintro e W8 ⟨v8, rfl, ho8, hb8⟩
  obtain ⟨a8, c8, rfl, hr8, hc8, hc8'⟩ := own_full ho8
  have HR8 := hide hr8
  have HR48 := hide (row_keep HR47.out hb8)
  have HR58 := hide (row_keep HR57.out hb8)
  have HR68 := hide (row_keep HR67.out hb8)
  have HR78 := hide (row_keep HR7.out hb8)
  have k8 := k7.kept hb8
  have hB8 := hB7.trans (hb8.mono hB7.size)
  have HN8 := hide (hn7.below hb8)
  clear hk7 k7 hn7 n0 n1 ln0 m0 m1 lm0 hB7 hb8 HR47 HR57 HR67 HR7 hr8 ho8
  have HTC := hide (fun h0 => fun (k : Nat) (hk : k < n.sp.length) => tru_case (n := n) h0 hk high)
  have HTN := hide (fun h => truR_no (n := n) h q high)
  have HTO := hide (fun h0 => fun hq => truR_out (n := n) h0 (q := q) hq high)
  have HSK := hide (fun h => sqR_ok (n := n) h)
  obtain ⟨le1, le2⟩ := lenR_len n
  rw [le1, le2]
  have HL11 := hide (sqR_len n)
  have HLL := hide (le1.trans rfl)
  have HSLE : Hid ((sqR n).2 = 0 → (sqR n).1.length = sn) := hide fun h0 => by
    rw [(sqR_ok h0).2.2, narT_len, sqs_len]; exact HN.out.hsn.symm
  have hl1 : (sqR n).1.length ≤ 1000000000 := by have := HL11.out; omega
  have HS1 := hide (spans_law (sqR n).1 (sqR n).1 a4 a5 (sqR n).1.length c4 (sqR n).1.length c5 _ _ W8 rfl rfl hl1 hl1 HR48.out HR58.out)
  rw [decide_eq_true (rfl : (sqR n).1 = (sqR n).1)] at HS1
  have HS2 := hide (fun (W : World) (hb : Below W8.heap.size W8 W) => spans_law (lenR n).1 (lenR n).1 a6 a7 (sqR n).1.length c6 (sqR n).1.length c7 _ _ W le1.symm le1.symm hl1 hl1 (row_keep HR68.out hb) (row_keep HR78.out hb))
  rw [decide_eq_true (rfl : (lenR n).1 = (lenR n).1)] at HS2
  clear le1 le2 hl1 HL11 HLL HR48 HR68 HR78
  generalize hTR : truR n q high = TR at *
  have HTR := hide hTR
  clear hTR
  generalize (sqR n).1 = L at *
  generalize (sqR n).2 = E at *
  obtain ⟨T, I⟩ := TR
  dsimp only at hc8 HR8 HTL ⊢
  obtain ⟨N, hN⟩ : ∃ N, L.length = N := ⟨_, rfl⟩
  rw [hN] at HS1 HS2 hc5 HSLE ⊢
  have HNL := hide hN
  clear hN
  obtain ⟨M, hM⟩ : ∃ M, T.length = M := ⟨_, rfl⟩
  rw [hM] at HTL hc8 ⊢
  have HM := hide hM
  clear hM
  have dE : (E != E) = false := by simp
  go_wp2_with fail
  refine HS1.out.mono ?_
  rintro e W9 ⟨rfl, hb9⟩
  go_wp2_with fail
  refine (HS2.out W9 hb9).mono ?_
  rintro e W10 ⟨rfl, hb10⟩
  have hb10' := hb9.trans (hb10.mono hb9.size)
  have hB10 := hB8.trans (hb10'.mono hB8.size)
  clear HS1 HS2 hb9 hb10
  by_cases h0 : E = 0
  rotate_left
  · have ht := HTN.out h0
    injection ht with hT hI
    subst hT hI
    have hM0 : M = 0 := by have := HM.out; simpa using this.symm
    subst hM0
    have d0 : (I == 0) = false := by rw [beq_eq_false_iff_ne]; exact h0
    have d1 : (I != 0) = true := by rw [bne_iff_ne]; exact h0
    clear h0
    go_wp2_with fail
    refine (works_any _).mono ?_
    rintro e W11 ⟨rfl, hb11⟩
    go_wp2_with fail
    go_ret
    exact ⟨rfl, hB10.trans (hb11.mono hB10.size)⟩
  subst h0
  have hNs := HSLE.out rfl
  subst hNs
  by_cases hq : q < 0 ∨ (N : Int) ≤ q
  · have ht := HTO.out rfl (by rw [← HN8.out.hsn]; exact hq)
    injection ht with hT hI
    subst hT hI
    have hM0 : M = 0 := by have := HM.out; simpa using this.symm
    subst hM0
    by_cases hq0 : q < 0
    · have d0 : decide (q < 0) = true := decide_eq_true hq0
      clear hq hq0
      go_wp2_with fail
      refine (works_any _).mono ?_
      rintro e W11 ⟨rfl, hb11⟩
      go_wp2_with fail
      go_ret
      exact ⟨rfl, hB10.trans (hb11.mono hB10.size)⟩
    · have d0 : decide (q < 0) = false := decide_eq_false hq0
      have d1 : decide ((N : Int) ≤ q) = true := decide_eq_true (by omega)
      clear hq hq0
      go_wp2_with fail
      refine (works_any _).mono ?_
      rintro e W11 ⟨rfl, hb11⟩
      go_wp2_with fail
      go_ret
      exact ⟨rfl, hB10.trans (hb11.mono hB10.size)⟩
  obtain ⟨k, rfl⟩ : ∃ k : Nat, q = (k : Int) := ⟨q.toNat, by omega⟩
  have hkN : k < N := by omega
  obtain ⟨ht0, hho, hval⟩ := HTC.out rfl k (by rw [← HN8.out.hsn]; exact hkN)
  rw [HTR.out] at ht0 hho hval
  dsimp only at ht0 hho hval
  subst ht0
  have HHO := hide hho
  have hMN : M = N := by rw [← HM.out, hho.len]; exact HN8.out.hsn.symm
  subst hMN
  have d0 : decide ((k : Int) < 0) = false := decide_eq_false (by omega)
  have d1 : decide ((M : Int) ≤ (k : Int)) = false := decide_eq_false (by omega)
  have d2 : decide (M ≤ k) = false := decide_eq_false (by omega)
  have k10 := k8.kept hb10'
  have HHD := hide (holds_any n T sa a' a8 M sc tn tc' c8 W10 (HN8.out.below hb10') (nok_of_check (HSK.out rfl).1) (row_keep HR8.out hb10') hho hc8 hc8')
  have HR10 := hide (row_keep HR8.out hb10')
  have HR510 := hide (row_keep HR58.out hb10')
  obtain ⟨m0, m1, _⟩ := k10.two
  have lm0 := k10.lt
  clear hq hho HTC HTN HTO HTL HSLE k8 k10 HSK hb10' HR8 HR58
  go_wp2_with fail
  refine HHD.out.mono ?_
  rintro e W11 ⟨rfl, hb11⟩
  have hB11 := hB10.trans (hb11.mono hB10.size)
  obtain ⟨xb, xoff, hxa, hxb, hxcl⟩ := (row_keep HR10.out hb11).int (by rw [HM.out]; omega)
  have x0 := hxcl k (by rw [HM.out]; exact hkN)
  obtain ⟨sb, soff, hsa, hsb, hscl⟩ := (row_keep HR510.out hb11).span (by rw [HNL.out]; omega)
  obtain ⟨s0, s1⟩ := hscl k (by rw [HNL.out]; exact hkN)
  subst hxa hsa
  have ik : (k : Int) < (M : Int) := by omega
  have HWK := hide (fun X : Ext W11 => Ext.call (W := W11) (works_any X.w))
  have hX := @Ext.cell W11
  clear hxcl hscl HHD HR10 HR510 hb11 m0 m1 lm0
  cases high with
  | true =>
    rw [if_pos rfl] at hval
    rw [hval] at x0
    clear hval
    generalize his L k = y at *
    have dy : (y == y) = true := beq_self_eq_true y
    go_wp2_with fail
    refine wp_region_all (Ext.w (W := W11)) (by kernel_rfl) (by kernel_rfl) (Ext.start W11) ?_
    repeat (first | go_big_quiet_skip | quiet_step (first | (go_at_call 16; with_reducible exact HWK.out _)))
    refine wpQuiet_nil ?_
    intro X
    have hBf := hB11.trans (X.below.mono hB11.size)
    go_wp2_with fail
    go_ret
    exact ⟨rfl, hBf⟩
  | false =>
    rw [if_neg (by simp)] at hval
    rw [hval] at x0
    clear hval
    generalize los L k = y at *
    have dy : (y == y) = true := beq_self_eq_true y
    go_wp2_with fail
    refine wp_region_all (Ext.w (W := W11)) (by kernel_rfl) (by kernel_rfl) (Ext.start W11) ?_
    repeat (first | go_big_quiet_skip | quiet_step (first | (go_at_call 16; with_reducible exact HWK.out _)))
    refine wpQuiet_nil ?_
    intro X
    have hBf := hB11.trans (X.below.mono hB11.size)
    go_wp2_with fail
    go_ret
    exact ⟨rfl, hBf⟩

end Go.Proofs.Ytlbhnicengolfaa
