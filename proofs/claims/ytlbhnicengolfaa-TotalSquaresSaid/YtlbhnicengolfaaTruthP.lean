/-
  Skies that are true: no group is broken; what lies within more, or in a net of which all truths are truths, is within; squares and lengths.
-/
import Derived.Test.YtlbhnicengolfaaSkyG
import Derived.Test.YtlbhnicengolfaaSusF
namespace Go.Proofs.Ytlbhnicengolfaa
open Go.RowKit
set_option linter.unusedVariables false
set_option linter.unusedSimpArgs false

theorem brkL_dot {cs : List Int} {ls : List Sp} {x : Nat → Int} : ∀ k, (∀ q, q < k → cs.getD q 0 = 1 ∨ cs.getD q 0 = -1 ∨ cs.getD q 0 = 0) → (∀ q, q < k → InS (ls.getD q (0, 0)) (x q)) → InS (brkL cs ls k) (dotK cs x k)
  | 0, _, _ => ⟨Int.le_refl _, Int.le_refl _⟩
  | k + 1, hc, hx => by
    have ih := brkL_dot k (fun q hq => hc q (by omega)) (fun q hq => hx q (by omega))
    have h1 := hc k (by omega)
    have h2 := hx k (by omega)
    rw [brkL_snoc, dotK_snoc]
    generalize brkL cs ls k = s at *
    generalize ls.getD k (0, 0) = u at *
    generalize cs.getD k 0 = c at *
    generalize dotK cs x k = d at *
    generalize x k = y at *
    obtain ⟨s1, s2⟩ := s
    obtain ⟨u1, u2⟩ := u
    unfold InS brkS plusS minusS at *
    dsimp only at *
    rcases h1 with rfl | rfl | rfl
    · rw [if_pos rfl]; dsimp only; omega
    · rw [if_neg (by decide), if_pos rfl]; dsimp only; omega
    · rw [if_neg (by decide), if_neg (by decide)]; dsimp only; omega
theorem grp_dot {N : Nat} {ts : List Tri} {C R : List Int} (h : GrpOk N ts C R) {X : Int → Int} (hX : ∀ t ∈ ts, (∀ o ∈ cor t, 0 ≤ o ∧ o < (N : Int)) ∧ Hl X t) : dotK R (fun i => X i) N = 0 := by
  obtain ⟨cs, e⟩ := h.sum
  have ha := dotK_all R (fun i => X i)
  rw [h.len] at ha
  rw [ha, e]
  exact dot_combo ts cs hX
theorem grp_one {N : Nat} {ts : List Tri} {C R : List Int} (h : GrpOk N ts C R) (q : Nat) (hq : q < N) : R.getD q 0 = 1 ∨ R.getD q 0 = -1 ∨ R.getD q 0 = 0 := by
  rcases h.one q hq with ⟨_, h | h⟩ | ⟨_, h⟩
  · exact .inl h
  · exact .inr (.inl h)
  · exact .inr (.inr h)
theorem brk_no {n : TNet} {C R : List Int} (h : GrpOk n.sp.length n.ts C R) (hin : ∀ t ∈ n.ts, ∀ o ∈ cor t, 0 ≤ o ∧ o < (n.sp.length : Int)) {X : Int → Int} (hX : Tru n.ts (sqs n.sp) X) : brkR n R = false := by
  have h1 := brkL_dot (cs := R) (ls := sqs n.sp) (x := fun i => X i) n.sp.length (grp_one h) (fun q hq => by
    have := hX.sp (q : Int) (by omega) (by rw [sqs_len]; omega)
    rwa [spA_nat] at this)
  rw [grp_dot h fun t ht => ⟨hin t ht, hX.tr t ht⟩] at h1
  unfold brkR
  rw [decide_eq_false (by have := h1.1; omega), decide_eq_false (by have := h1.2; omega)]
  rfl
theorem mem_grpUp {ts : List Tri} {sn : Nat} {x : List Int × List Int} : ∀ {k : Nat}, x ∈ grpUp ts sn k → ∃ m, 1 ≤ m ∧ m ≤ k ∧ (grpR ts (bitsK m ts.length) sn).2 = true ∧ x = (bitsK m ts.length, (grpR ts (bitsK m ts.length) sn).1)
  | 0, h => by cases h
  | k + 1, h => by
    unfold grpUp at h
    rcases List.mem_append.1 h with h | h
    · obtain ⟨m, h1, h2, h3⟩ := mem_grpUp h
      exact ⟨m, h1, by omega, h3⟩
    · unfold grpOne at h
      split at h
      · rename_i hg
        rw [List.mem_singleton] at h
        exact ⟨k + 1, by omega, Nat.le_refl _, hg, h⟩
      · cases h
theorem sky_set (s : TSky) {m : Nat} (h1 : 1 ≤ m) (h2 : m ≤ 2 ^ skyK s - 1) : (bitsK m (skyK s)).length ≠ 0 := by
  have hk : skyK s ≤ 3 := by unfold skyK; omega
  have hp : (2 : Nat) ^ skyK s ≤ 8 := by
    have : skyK s = 0 ∨ skyK s = 1 ∨ skyK s = 2 ∨ skyK s = 3 := by omega
    rcases this with e | e | e | e <;> rw [e] <;> omega
  have h0 : 0 < (2 : Nat) ^ skyK s := Nat.pos_of_ne_zero (by simp)
  exact bitsK_ne ⟨skyK s, by omega⟩ ⟨m, by omega⟩ h1 (by show m < 2 ^ skyK s; omega)
/-- All that groups yields for a net of a sky's shape is a group. -/
theorem sky_mem (s : TSky) {n : TNet} (hl : n.sp.length = 1 + 2 * skyK s) (ht : n.ts = (skyNet s).ts) {x : List Int × List Int} (hx : x ∈ grpAll n) : ∃ C, GrpOk n.sp.length n.ts C x.2 := by
  have hk : n.ts.length = skyK s := by rw [ht]; exact skyTs_len _ _
  obtain ⟨m, h1, h2, h3, rfl⟩ := mem_grpUp hx
  rw [hk] at h2 h3 ⊢
  rw [hl, ht] at h3 ⊢
  rcases sky_grp s (sky_set s h1 h2) with ⟨_, h⟩ | ⟨_, _, _, _, h⟩
  · rw [h] at h3; cases h3
  · exact ⟨_, h⟩
/-- A net of a sky's shape that has a truth has no clash. -/
theorem sky_cla (s : TSky) {n : TNet} (hok : NOk n) (hl : n.sp.length = 1 + 2 * skyK s) (ht : n.ts = (skyNet s).ts) {X : Int → Int} (hX : Tru n.ts (sqs n.sp) X) : claR n = ([], 6) := by
  unfold claR
  rw [if_neg (by rw [check_of hok]; simp), List.find?_eq_none.2 fun x hx => ?_]
  obtain ⟨C, hg⟩ := sky_mem s hl ht hx
  rw [brk_no hg (nok_in hok) hX]
  simp

/-- Squares of a net that has a truth. -/
theorem sqR_tru {n : TNet} (hok : NOk n) {X : Int → Int} (hX : Tru n.ts (sqs n.sp) X) : sqR n = (narT n.ts (sqs n.sp), 0) ∧ ∀ q, q < n.sp.length → InS ((narT n.ts (sqs n.sp)).getD q (0, 0)) (X q) := by
  have h := (ok_iff hok (sqs_len _)).2 ⟨X, hX⟩
  refine ⟨?_, fun q hq => (in_iff hok (sqs_len _) h hq _).2 ⟨X, rfl, hX⟩⟩
  unfold sqR
  rw [if_neg (by rw [check_of hok]; simp), h]
  rfl
/-- What is known more is narrower. -/
theorem sqR_sub {n o : TNet} (hn : NOk n) (ho : NOk o) (hl : o.sp.length = n.sp.length) {X : Int → Int} (hX : Tru o.ts (sqs o.sp) X) (hs : ∀ Y, Tru o.ts (sqs o.sp) Y → Tru n.ts (sqs n.sp) Y) {q : Nat} (hq : q < n.sp.length) :
    ((narT n.ts (sqs n.sp)).getD q (0, 0)).1 ≤ ((narT o.ts (sqs o.sp)).getD q (0, 0)).1 ∧ ((narT o.ts (sqs o.sp)).getD q (0, 0)).2 ≤ ((narT n.ts (sqs n.sp)).getD q (0, 0)).2 := by
  have h1 := (ok_iff ho (sqs_len _)).2 ⟨X, hX⟩
  have h2 := (ok_iff hn (sqs_len _)).2 ⟨X, hs X hX⟩
  have hq' : q < o.sp.length := by omega
  have hle := nar_le (sqs_len _) h1 hq'
  obtain ⟨x, e1, hx⟩ := (in_iff ho (sqs_len _) h1 hq' _).1 ⟨Int.le_refl _, hle⟩
  obtain ⟨y, e2, hy⟩ := (in_iff ho (sqs_len _) h1 hq' _).1 ⟨hle, Int.le_refl _⟩
  have a := (in_iff hn (sqs_len _) h2 hq _).2 ⟨x, rfl, hs x hx⟩
  have b := (in_iff hn (sqs_len _) h2 hq _).2 ⟨y, rfl, hs y hy⟩
  rw [e1] at a
  rw [e2] at b
  exact ⟨a.1, b.2⟩
theorem nok_sub {n : TNet} (h : NOk n) (k : Nat) : NOk ⟨n.sp, n.ts.take k⟩ := by
  refine ⟨h.l1, h.l2, by have := h.l3; simp [List.length_take]; omega, h.sp, fun i hi => ?_⟩
  dsimp only at hi ⊢
  rw [List.length_take] at hi
  have := h.tr i (by omega)
  rw [List.take_take, Nat.min_eq_left (by omega)]
  have e : tri (n.ts.take k) i = tri n.ts i := by simp [tri, List.getD, List.getElem?_take, show i < k by omega]
  rw [e]
  exact this
theorem tru_sub {n : TNet} {X : Int → Int} (h : Tru n.ts (sqs n.sp) X) (k : Nat) : Tru (n.ts.take k) (sqs n.sp) X := ⟨h.sp, fun t ht => h.tr t (List.mem_of_mem_take ht)⟩
def setSp (n : TNet) (k : Nat) (s : Sp) : TNet := ⟨n.sp.set k s, n.ts⟩
/-- One quantity is known better. -/
theorem set_better {n : TNet} (hn : NOk n) {k : Nat} (hk : k < n.sp.length) {X : Int → Int} (hX : Tru n.ts (sqs n.sp) X) {a b : Int} (h0 : los n.sp k ≤ a) (h1 : b ≤ his n.sp k) (h2 : a * a ≤ X k) (h3 : X k ≤ b * b) (hb : 0 ≤ b) :
    NOk (setSp n k (a, b)) ∧ (setSp n k (a, b)).sp.length = n.sp.length ∧ Tru (setSp n k (a, b)).ts (sqs (setSp n k (a, b)).sp) X ∧ ∀ Y, Tru (setSp n k (a, b)).ts (sqs (setSp n k (a, b)).sp) Y → Tru n.ts (sqs n.sp) Y := by
  have hl : (setSp n k (a, b)).sp.length = n.sp.length := by simp [setSp]
  have hsk := hn.sp k hk
  have hab : a ≤ b := by
    rcases Int.lt_or_le b a with h | h
    · have := sq_mono (a := b + 1) (b := a) (by omega) (by omega)
      have e : (b + 1) * (b + 1) = b * b + 2 * b + 1 := by grind
      omega
    · exact h
  have hg : ∀ i, (setSp n k (a, b)).sp.getD i (0, 0) = if i = k then (a, b) else n.sp.getD i (0, 0) := fun i => by
    unfold setSp
    dsimp only
    rw [List.getD_eq_getElem?_getD, List.getElem?_set]
    by_cases e : k = i
    · subst e; rw [if_pos rfl, if_pos hk, if_pos rfl]; rfl
    · rw [if_neg e, if_neg (fun h => e h.symm), ← List.getD_eq_getElem?_getD]
  have hlo : ∀ i, los (setSp n k (a, b)).sp i = if i = k then a else los n.sp i := fun i => by unfold los; rw [hg]; split <;> rfl
  have hhi : ∀ i, his (setSp n k (a, b)).sp i = if i = k then b else his n.sp i := fun i => by unfold his; rw [hg]; split <;> rfl
  refine ⟨⟨by rw [hl]; exact hn.l1, by rw [hl]; exact hn.l2, hn.l3, fun i hi => ?_, fun i hi => ?_⟩, hl, ⟨fun q h0' h1' => ?_, hX.tr⟩, fun Y hY => ⟨fun q h0' h1' => ?_, hY.tr⟩⟩
  · rw [hl] at hi
    rw [hlo, hhi]
    split
    · omega
    · exact hn.sp i hi
  · rw [hl]; exact hn.tr i hi
  · rw [sqs_len, hl] at h1'
    have h4 := hX.sp q h0' (by rw [sqs_len]; exact h1')
    rw [spA_sqs h0' h1'] at h4
    rw [spA_sqs h0' (by rw [hl]; exact h1'), hlo, hhi]
    split
    · rename_i e
      have e2 : X q = X k := by rw [← e, Int.toNat_of_nonneg h0']
      unfold InS
      dsimp only
      rw [e2]
      exact ⟨h2, h3⟩
    · exact h4
  · rw [sqs_len] at h1'
    have h4 := hY.sp q h0' (by rw [sqs_len, hl]; exact h1')
    rw [spA_sqs h0' (by rw [hl]; exact h1'), hlo, hhi] at h4
    rw [spA_sqs h0' h1']
    split at h4
    · rename_i e
      rw [e]
      have s1 := sq_mono (a := los n.sp k) (b := a) hsk.1 h0
      have s2 := sq_mono (a := b) (b := his n.sp k) hb h1
      unfold InS at h4 ⊢
      dsimp only at h4 ⊢
      omega
    · exact h4
/-- Lengths are the integers around the roots. -/
theorem len_ok {n : TNet} (hok : NOk n) {X : Int → Int} (hX : Tru n.ts (sqs n.sp) X) : lenR n = ((narT n.ts (sqs n.sp)).map lenS, 0) ∧ ∀ q, q < n.sp.length →
    0 ≤ los ((narT n.ts (sqs n.sp)).map lenS) q ∧ los ((narT n.ts (sqs n.sp)).map lenS) q ≤ 10000 ∧ 0 ≤ his ((narT n.ts (sqs n.sp)).map lenS) q ∧ his ((narT n.ts (sqs n.sp)).map lenS) q ≤ 10001 ∧
    los ((narT n.ts (sqs n.sp)).map lenS) q * los ((narT n.ts (sqs n.sp)).map lenS) q ≤ X q ∧ X q ≤ his ((narT n.ts (sqs n.sp)).map lenS) q * his ((narT n.ts (sqs n.sp)).map lenS) q := by
  obtain ⟨h1, h2⟩ := sqR_tru hok hX
  refine ⟨by unfold lenR; rw [h1], fun q hq => ?_⟩
  have h3 := h2 q hq
  have hle := narT_le (nok_frst hok) (ls := sqs n.sp) (by rw [sqs_len]; exact nok_in hok) (q : Int) (by omega)
  rw [spA_nat, spA_nat] at hle
  have hsp := hok.sp q hq
  have e : (sqs n.sp).getD q (0, 0) = (los n.sp q * los n.sp q, his n.sp q * his n.sp q) := by
    have := spA_sqs (sp := n.sp) (q := (q : Int)) (by omega) (by omega)
    rwa [spA_nat, Int.toNat_natCast] at this
  rw [e] at hle
  dsimp only at hle
  have q0 := sq_small hsp.1 (by omega)
  have q1 := sq_small (x := his n.sp q) (by omega) hsp.2.2
  have hg : ((narT n.ts (sqs n.sp)).map lenS).getD q (0, 0) = lenS ((narT n.ts (sqs n.sp)).getD q (0, 0)) := by
    have hl : q < (narT n.ts (sqs n.sp)).length := by rw [narT_len, sqs_len]; exact hq
    simp [List.getD, hl]
  unfold los his
  rw [hg]
  generalize (narT n.ts (sqs n.sp)).getD q (0, 0) = u at *
  obtain ⟨u0, u1⟩ := u
  generalize X q = y at *
  unfold InS at h3
  unfold lenS rootR
  dsimp only at h3 hle ⊢
  have c0 : 0 ≤ u0 := by omega
  have c1 : u1 ≤ 100000000 := by omega
  obtain ⟨r0, r1, r2⟩ := rt_spec (s := u0) c0 (by omega)
  obtain ⟨p0, p1, p2⟩ := rt_spec (s := u1) (by omega) (by omega)
  have b0 : rt u0 ≤ 10000 := by
    rcases Int.lt_or_le 10000 (rt u0) with h | h
    · have := sq_mono (a := 10001) (b := rt u0) (by omega) (by omega)
      omega
    · exact h
  have b1 : rt u1 ≤ 10000 := by
    rcases Int.lt_or_le 10000 (rt u1) with h | h
    · have := sq_mono (a := 10001) (b := rt u1) (by omega) (by omega)
      omega
    · exact h
  rw [if_neg (by omega), if_neg (by omega)]
  dsimp only
  have hup : rtUp u1 ≤ 10001 ∧ 0 ≤ rtUp u1 ∧ u1 ≤ rtUp u1 * rtUp u1 := by
    unfold rtUp
    split
    · exact ⟨by omega, by omega, by omega⟩
    · exact ⟨by omega, by omega, by omega⟩
  exact ⟨r0, b0, hup.2.1, hup.1, by omega, by omega⟩

end Go.Proofs.Ytlbhnicengolfaa
