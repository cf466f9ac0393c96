/-
  Skies: if no group is broken, there is a truth.
-/
import Derived.Test.YtlbhnicengolfaaTruthP
namespace Go.Proofs.Ytlbhnicengolfaa
open Go.RowKit
set_option linter.unusedVariables false
set_option linter.unusedSimpArgs false

/-! ### sums over indices -/
def sK (f : Nat → Int) : Nat → Int
  | 0 => 0
  | k + 1 => sK f k + f k
theorem sK_congr {f g : Nat → Int} : ∀ k, (∀ i, i < k → f i = g i) → sK f k = sK g k
  | 0, _ => rfl
  | k + 1, h => by unfold sK; rw [sK_congr k (fun i hi => h i (by omega)), h k (by omega)]
theorem sK_one {f g : Nat → Int} {o : Nat} : ∀ k, o < k → (∀ i, i < k → i ≠ o → f i = g i) → sK f k - f o = sK g k - g o
  | 0, h, _ => by omega
  | k + 1, h, he => by
    unfold sK
    by_cases e : o = k
    · subst e
      rw [sK_congr o (fun i hi => he i (by omega) (by omega))]
      omega
    · have := sK_one k (by omega) (fun i hi => he i (by omega))
      have := he k (by omega) (by omega)
      omega
theorem sK_neg {f : Nat → Int} : ∀ k, sK (fun i => -f i) k = -sK f k
  | 0 => by simp [sK]
  | k + 1 => by unfold sK; rw [sK_neg k]; omega
def conS (c : Int) (s : Sp) : Sp := if c = 1 then s else if c = -1 then (-s.2, -s.1) else (0, 0)
theorem brkS_con (s : Sp) (c : Int) (q : Sp) : brkS s c q = (s.1 + (conS c q).1, s.2 + (conS c q).2) := by
  unfold brkS conS plusS minusS
  split
  · rfl
  · split
    · exact Prod.ext (by dsimp only; omega) (by dsimp only; omega)
    · exact Prod.ext (by dsimp only; omega) (by dsimp only; omega)
def cLo (cs : List Int) (ls : List Sp) (i : Nat) : Int := (conS (cs.getD i 0) (ls.getD i (0, 0))).1
def cHi (cs : List Int) (ls : List Sp) (i : Nat) : Int := (conS (cs.getD i 0) (ls.getD i (0, 0))).2
theorem brkL_sum (cs : List Int) (ls : List Sp) : ∀ k, brkL cs ls k = (sK (cLo cs ls) k, sK (cHi cs ls) k)
  | 0 => rfl
  | k + 1 => by
    rw [brkL_snoc, brkL_sum cs ls k, brkS_con]
    rfl
def Zin (cs : List Int) (ls : List Sp) (k : Nat) : Prop := sK (cLo cs ls) k ≤ 0 ∧ 0 ≤ sK (cHi cs ls) k
theorem conS_neg (c : Int) (s : Sp) : conS (-c) s = (-(conS c s).2, -(conS c s).1) := by
  unfold conS
  by_cases h1 : c = 1
  · subst h1; simp
  · by_cases h2 : c = -1
    · subst h2; simp
    · rw [if_neg (by omega), if_neg (by omega), if_neg h1, if_neg h2]; simp
theorem zin_neg {cs : List Int} {ls : List Sp} {k : Nat} (h : Zin (cs.map fun c => -c) ls k) : Zin cs ls k := by
  have e : ∀ i, (cs.map fun c => -c).getD i 0 = -(cs.getD i 0) := fun i => by
    rw [List.getD_eq_getElem?_getD, List.getElem?_map, List.getD_eq_getElem?_getD]
    cases cs[i]? <;> simp
  have e1 : cLo (cs.map fun c => -c) ls = fun i => -cHi cs ls i := by
    funext i
    unfold cLo cHi
    rw [e, conS_neg]
  have e2 : cHi (cs.map fun c => -c) ls = fun i => -cLo cs ls i := by
    funext i
    unfold cLo cHi
    rw [e, conS_neg]
  unfold Zin at *
  rw [e1, e2, sK_neg, sK_neg] at h
  omega

/-! ### what is looked at, for all shapes -/
def oldQ (t : Tri) : Nat := if t.2.2 < t.1 then t.2.2.toNat else t.1.toNat
def sgA (t : Tri) (c : Int) : Int := if t.2.2 < t.1 then c else -c
def isN (E : List Int) (G : List Int × Bool) : Bool := G.2 && (G.1 == E || G.1 == E.map fun c => -c)
def chkF1 (k : Nat) (ts : List Tri) (m : Nat) (R : List Int) : Bool :=
  R.length == 1 + 2 * k && R.all (fun c => c == 1 || c == -1 || c == 0) && isN (R ++ [0, 0]) (grpR ts (bitsK m (k + 1)) (3 + 2 * k)) &&
    (R.getD (oldQ (tri ts k)) 0 == 0 || isN (R.set (oldQ (tri ts k)) 0 ++ [sgA (tri ts k) (R.getD (oldQ (tri ts k)) 0), R.getD (oldQ (tri ts k)) 0]) (grpR ts (bitsK (m + 2 ^ k) (k + 1)) (3 + 2 * k)))
def chkF (K : Nat) (ts : List Tri) : Bool :=
  match K with
  | 0 => true
  | k + 1 => isN ((List.replicate (1 + 2 * k) 0).set (oldQ (tri ts k)) (-1) ++ [sgA (tri ts k) 1, 1]) (grpR ts (bitsK (2 ^ k) (k + 1)) (3 + 2 * k)) &&
    (List.range (2 ^ k)).all fun m => m == 0 || !(grpR (ts.take k) (bitsK m k) (1 + 2 * k)).2 || chkF1 k ts m (grpR (ts.take k) (bitsK m k) (1 + 2 * k)).1
set_option maxRecDepth 100000 in
theorem forms_all : everyT chkF = true := by decide +kernel
theorem skyTs_congr {lk lk' : List (Int × Int)} : ∀ {k}, (∀ i, i < k → lk.getD i (0, 0) = lk'.getD i (0, 0)) → skyTs lk k = skyTs lk' k
  | 0, _ => rfl
  | k + 1, h => by unfold skyTs; rw [skyTs_congr fun i hi => h i (by omega), h k (by omega)]
theorem topo_every {P : Nat → List Tri → Bool} (h : everyT P = true) (lk : List (Int × Int)) {K : Nat} (hk : K ≤ 3) : P K (skyTs lk K) = true := by
  have := sky_every h ⟨(List.range K).map fun i => lk.getD i (0, 0), fun _ => 0⟩
  have e : skyK ⟨(List.range K).map fun i => lk.getD i (0, 0), fun _ => 0⟩ = K := by
    unfold skyK
    rw [List.length_map, List.length_range]
    omega
  have e2 : (skyNet ⟨(List.range K).map fun i => lk.getD i (0, 0), fun _ => 0⟩).ts = skyTs lk K := by
    unfold skyNet
    dsimp only
    rw [e]
    exact skyTs_congr fun i hi => by simp [List.getD, hi]
  rwa [e, e2] at this

/-! ### one triangle less -/
theorem skyTs_takeF (lk : List (Int × Int)) (k : Nat) : (skyTs lk (k + 1)).take k = skyTs lk k := by
  show (skyTs lk k ++ [skyT k (lk.getD k (0, 0))]).take k = skyTs lk k
  rw [List.take_append_of_le_length (by rw [skyTs_len]; exact Nat.le_refl _), List.take_of_length_le (by rw [skyTs_len]; exact Nat.le_refl _)]
def spJ (t : Tri) (a b : Sp) : Sp := ((conS (sgA t 1) a).1 + b.1, (conS (sgA t 1) a).2 + b.2)
def ls1 (t : Tri) (k : Nat) (ls : List Sp) : List Sp := (ls.take (1 + 2 * k)).set (oldQ t) (bothS (ls.getD (oldQ t) (0, 0)) (spJ t (ls.getD (1 + 2 * k) (0, 0)) (ls.getD (2 + 2 * k) (0, 0))))
/-- No group is broken. -/
def NB (lk : List (Int × Int)) (k : Nat) (ls : List Sp) : Prop := ∀ m, 1 ≤ m → m < 2 ^ k → (grpR (skyTs lk k) (bitsK m k) (1 + 2 * k)).2 = true → Zin (grpR (skyTs lk k) (bitsK m k) (1 + 2 * k)).1 ls (1 + 2 * k)
theorem con_J (t : Tri) (a b : Sp) {c : Int} (hc : c = 1 ∨ c = -1) : (conS (sgA t c) a).1 + (conS c b).1 = (conS c (spJ t a b)).1 ∧ (conS (sgA t c) a).2 + (conS c b).2 = (conS c (spJ t a b)).2 := by
  unfold spJ sgA
  rcases hc with rfl | rfl
  · split <;> simp [conS]
  · split
    · simp [conS]; omega
    · simp [conS]; omega
theorem spJ_le (t : Tri) {a b : Sp} (ha : a.1 ≤ a.2) (hb : b.1 ≤ b.2) : (spJ t a b).1 ≤ (spJ t a b).2 := by
  unfold spJ sgA
  split
  · simp [conS]; omega
  · simp [conS]; omega
theorem sum_app {R : List Int} {ls : List Sp} {k : Nat} (hR : R.length = 1 + 2 * k) (x y : Int) :
    sK (cLo (R ++ [x, y]) ls) (3 + 2 * k) = sK (cLo R ls) (1 + 2 * k) + (conS x (ls.getD (1 + 2 * k) (0, 0))).1 + (conS y (ls.getD (2 + 2 * k) (0, 0))).1 ∧
    sK (cHi (R ++ [x, y]) ls) (3 + 2 * k) = sK (cHi R ls) (1 + 2 * k) + (conS x (ls.getD (1 + 2 * k) (0, 0))).2 + (conS y (ls.getD (2 + 2 * k) (0, 0))).2 := by
  have e0 : ∀ i, i < 1 + 2 * k → (R ++ [x, y]).getD i 0 = R.getD i 0 := fun i hi => by
    rw [List.getD_eq_getElem?_getD, List.getElem?_append_left (by omega), ← List.getD_eq_getElem?_getD]
  have e1 : (R ++ [x, y]).getD (1 + 2 * k) 0 = x := by
    rw [List.getD_eq_getElem?_getD, List.getElem?_append_right (by omega), hR]; simp
  have e2 : (R ++ [x, y]).getD (2 + 2 * k) 0 = y := by
    rw [List.getD_eq_getElem?_getD, List.getElem?_append_right (by omega), hR, show 2 + 2 * k - (1 + 2 * k) = 1 by omega]; simp
  have hs : ∀ f : Nat → Int, sK f (3 + 2 * k) = sK f (1 + 2 * k) + f (1 + 2 * k) + f (2 + 2 * k) := fun f => by
    rw [show 3 + 2 * k = (2 + 2 * k) + 1 by omega, show sK f (2 + 2 * k + 1) = sK f (2 + 2 * k) + f (2 + 2 * k) from rfl, show sK f (2 + 2 * k) = sK f (1 + 2 * k) + f (1 + 2 * k) by rw [show 2 + 2 * k = (1 + 2 * k) + 1 by omega]; rfl]
  rw [hs, hs]
  constructor
  · rw [sK_congr (f := cLo (R ++ [x, y]) ls) (g := cLo R ls) (1 + 2 * k) (fun i hi => by unfold cLo; rw [e0 i hi])]
    unfold cLo
    rw [e1, e2]
  · rw [sK_congr (f := cHi (R ++ [x, y]) ls) (g := cHi R ls) (1 + 2 * k) (fun i hi => by unfold cHi; rw [e0 i hi])]
    unfold cHi
    rw [e1, e2]
theorem isN_zin {E : List Int} {G : List Int × Bool} {ls : List Sp} {N : Nat} (h : isN E G = true) (hz : G.2 = true → Zin G.1 ls N) : Zin E ls N := by
  unfold isN at h
  simp only [Bool.and_eq_true, Bool.or_eq_true, beq_iff_eq] at h
  obtain ⟨h1, h2 | h2⟩ := h
  · rw [← h2]; exact hz h1
  · exact zin_neg (by rw [← h2]; exact hz h1)
theorem set_getD {α : Type} (L : List α) (o i : Nat) (v d : α) (ho : o < L.length) : (L.set o v).getD i d = if i = o then v else L.getD i d := by
  rw [List.getD_eq_getElem?_getD, List.getElem?_set]
  by_cases e : o = i
  · subst e; rw [if_pos rfl, if_pos ho, if_pos rfl]; rfl
  · rw [if_neg e, if_neg (fun h => e h.symm), ← List.getD_eq_getElem?_getD]
theorem bits_two (k m : Nat) (h : m < 2 ^ k) : m + 2 ^ k < 2 ^ (k + 1) := by rw [Nat.pow_succ]; omega
theorem pow_one (k : Nat) : 1 ≤ 2 ^ k := Nat.one_le_two_pow
theorem fstep {lk : List (Int × Int)} {k : Nat} (hk : k + 1 ≤ 3) {ls : List Sp} (hl : ls.length = 3 + 2 * k) (ho : oldQ (skyT k (lk.getD k (0, 0))) < 1 + 2 * k) (hne : ∀ i, i < 3 + 2 * k → (ls.getD i (0, 0)).1 ≤ (ls.getD i (0, 0)).2) (hNB : NB lk (k + 1) ls) :
    (∀ i, i < 1 + 2 * k → ((ls1 (skyT k (lk.getD k (0, 0))) k ls).getD i (0, 0)).1 ≤ ((ls1 (skyT k (lk.getD k (0, 0))) k ls).getD i (0, 0)).2) ∧ NB lk k (ls1 (skyT k (lk.getD k (0, 0))) k ls) := by
  have hf := topo_every forms_all lk hk
  have e1 : tri (skyTs lk (k + 1)) k = skyT k (lk.getD k (0, 0)) := skyTs_tri lk (Nat.lt_succ_self k)
  have e2 := skyTs_takeF lk k
  have e3 : 3 + 2 * k = 1 + 2 * (k + 1) := by omega
  unfold chkF at hf
  dsimp only at hf
  rw [e1, e2] at hf
  generalize skyT k (lk.getD k (0, 0)) = t at *
  have hlt : (ls.take (1 + 2 * k)).length = 1 + 2 * k := by rw [List.length_take]; omega
  have eg : ∀ i, i < 1 + 2 * k → (ls1 t k ls).getD i (0, 0) = if i = oldQ t then bothS (ls.getD (oldQ t) (0, 0)) (spJ t (ls.getD (1 + 2 * k) (0, 0)) (ls.getD (2 + 2 * k) (0, 0))) else ls.getD i (0, 0) := fun i hi => by
    unfold ls1
    rw [set_getD _ _ _ _ _ (by rw [hlt]; exact ho)]
    split
    · rfl
    · rw [List.getD_eq_getElem?_getD, List.getElem?_take_of_lt hi, ← List.getD_eq_getElem?_getD]
  have hg : ∀ m, 1 ≤ m → m < 2 ^ (k + 1) → ∀ E, isN E (grpR (skyTs lk (k + 1)) (bitsK m (k + 1)) (3 + 2 * k)) = true → Zin E ls (3 + 2 * k) := fun m h1 h2 E hE => isN_zin hE fun h => by
    have := hNB m h1 h2
    rw [← e3] at this
    exact this h
  simp only [Bool.and_eq_true, List.all_eq_true, List.mem_range, Bool.or_eq_true] at hf
  obtain ⟨hf1, hf2⟩ := hf
  have p1 := pow_one k
  have z1 := hg (2 ^ k) p1 (by rw [Nat.pow_succ]; omega) _ hf1
  have hA := hne (1 + 2 * k) (by omega)
  have hB := hne (2 + 2 * k) (by omega)
  have hO := hne (oldQ t) (by omega)
  have hJ : (spJ t (ls.getD (1 + 2 * k) (0, 0)) (ls.getD (2 + 2 * k) (0, 0))).1 ≤ (spJ t (ls.getD (1 + 2 * k) (0, 0)) (ls.getD (2 + 2 * k) (0, 0))).2 := spJ_le t hA hB
  have z2 : (spJ t (ls.getD (1 + 2 * k) (0, 0)) (ls.getD (2 + 2 * k) (0, 0))).1 ≤ (ls.getD (oldQ t) (0, 0)).2 ∧ (ls.getD (oldQ t) (0, 0)).1 ≤ (spJ t (ls.getD (1 + 2 * k) (0, 0)) (ls.getD (2 + 2 * k) (0, 0))).2 := by
    unfold Zin at z1
    obtain ⟨q1, q2⟩ := sum_app (R := (List.replicate (1 + 2 * k) 0).set (oldQ t) (-1)) (ls := ls) (k := k) (by simp) (sgA t 1) 1
    rw [q1, q2] at z1
    have c1 := con_J t (ls.getD (1 + 2 * k) (0, 0)) (ls.getD (2 + 2 * k) (0, 0)) (c := 1) (.inl rfl)
    have er : ∀ i, ((List.replicate (1 + 2 * k) (0 : Int)).set (oldQ t) (-1)).getD i 0 = if i = oldQ t then -1 else 0 := fun i => by
      rw [set_getD _ _ _ _ _ (by simpa using ho)]
      split
      · rfl
      · rw [List.getD_eq_getElem?_getD, List.getElem?_replicate]
        split <;> rfl
    have s1 := sK_one (f := cLo ((List.replicate (1 + 2 * k) 0).set (oldQ t) (-1)) ls) (g := fun _ => 0) (1 + 2 * k) ho (fun i hi hio => by unfold cLo; rw [er, if_neg hio]; simp [conS])
    have s2 := sK_one (f := cHi ((List.replicate (1 + 2 * k) 0).set (oldQ t) (-1)) ls) (g := fun _ => 0) (1 + 2 * k) ho (fun i hi hio => by unfold cHi; rw [er, if_neg hio]; simp [conS])
    have s0 : ∀ n, sK (fun _ => 0) n = 0 := fun n => by
      induction n with
      | zero => rfl
      | succ n ih => unfold sK; rw [ih]; rfl
    have s3 : cLo ((List.replicate (1 + 2 * k) 0).set (oldQ t) (-1)) ls (oldQ t) = -(ls.getD (oldQ t) (0, 0)).2 := by unfold cLo; rw [er, if_pos rfl]; simp [conS]
    have s4 : cHi ((List.replicate (1 + 2 * k) 0).set (oldQ t) (-1)) ls (oldQ t) = -(ls.getD (oldQ t) (0, 0)).1 := by unfold cHi; rw [er, if_pos rfl]; simp [conS]
    have c2 : (conS 1 (spJ t (ls.getD (1 + 2 * k) (0, 0)) (ls.getD (2 + 2 * k) (0, 0)))) = spJ t (ls.getD (1 + 2 * k) (0, 0)) (ls.getD (2 + 2 * k) (0, 0)) := rfl
    rw [s0, s3] at s1
    rw [s0, s4] at s2
    rw [c2] at c1
    omega
  refine ⟨fun i hi => ?_, fun m h1 h2 hG => ?_⟩
  · rw [eg i hi]
    split
    · unfold bothS
      dsimp only
      omega
    · exact hne i (by omega)
  · have hm := hf2 m h2
    rcases hm with (hm | hm) | hm
    · simp at hm; omega
    · rw [hG] at hm; cases hm
    · generalize grpR (skyTs lk k) (bitsK m k) (1 + 2 * k) = G at *
      obtain ⟨R, b⟩ := G
      unfold chkF1 at hm
      dsimp only at hm ⊢
      rw [e1] at hm
      simp only [Bool.and_eq_true, List.all_eq_true, Bool.or_eq_true, beq_iff_eq] at hm
      obtain ⟨⟨⟨hl1, hr⟩, hn1⟩, hn2⟩ := hm
      have z3 := hg m h1 (by rw [Nat.pow_succ]; omega) _ hn1
      obtain ⟨q1, q2⟩ := sum_app (R := R) (ls := ls) (k := k) hl1 0 0
      unfold Zin at z3 ⊢
      rw [q1, q2] at z3
      have c0 : ∀ s : Sp, conS 0 s = (0, 0) := fun s => rfl
      rw [c0, c0] at z3
      dsimp only at z3
      have t1 := sK_one (f := cLo R (ls1 t k ls)) (g := cLo R ls) (1 + 2 * k) ho (fun i hi hio => by unfold cLo; rw [eg i hi, if_neg hio])
      have t2 := sK_one (f := cHi R (ls1 t k ls)) (g := cHi R ls) (1 + 2 * k) ho (fun i hi hio => by unfold cHi; rw [eg i hi, if_neg hio])
      have u1 : cLo R (ls1 t k ls) (oldQ t) = (conS (R.getD (oldQ t) 0) (bothS (ls.getD (oldQ t) (0, 0)) (spJ t (ls.getD (1 + 2 * k) (0, 0)) (ls.getD (2 + 2 * k) (0, 0))))).1 := by unfold cLo; rw [eg _ ho, if_pos rfl]
      have u2 : cHi R (ls1 t k ls) (oldQ t) = (conS (R.getD (oldQ t) 0) (bothS (ls.getD (oldQ t) (0, 0)) (spJ t (ls.getD (1 + 2 * k) (0, 0)) (ls.getD (2 + 2 * k) (0, 0))))).2 := by unfold cHi; rw [eg _ ho, if_pos rfl]
      have u3 : cLo R ls (oldQ t) = (conS (R.getD (oldQ t) 0) (ls.getD (oldQ t) (0, 0))).1 := rfl
      have u4 : cHi R ls (oldQ t) = (conS (R.getD (oldQ t) 0) (ls.getD (oldQ t) (0, 0))).2 := rfl
      rw [u1, u3] at t1
      rw [u2, u4] at t2
      rcases hn2 with hz | hz
      · rw [hz, c0, c0] at t1 t2
        omega
      · have hc : R.getD (oldQ t) 0 = 1 ∨ R.getD (oldQ t) 0 = -1 ∨ R.getD (oldQ t) 0 = 0 := by
          have hmem : R.getD (oldQ t) 0 ∈ R := by
            rw [List.getD_eq_getElem?_getD, List.getElem?_eq_getElem (by omega)]
            exact List.getElem_mem _
          have := hr _ hmem
          simpa [or_assoc] using this
        have z4 := hg (m + 2 ^ k) (by omega) (bits_two k m h2) _ hz
        obtain ⟨q3, q4⟩ := sum_app (R := R.set (oldQ t) 0) (ls := ls) (k := k) (by simpa using hl1) (sgA t (R.getD (oldQ t) 0)) (R.getD (oldQ t) 0)
        unfold Zin at z4
        rw [q3, q4] at z4
        have v1 := sK_one (f := cLo (R.set (oldQ t) 0) ls) (g := cLo R ls) (1 + 2 * k) ho (fun i hi hio => by unfold cLo; rw [set_getD _ _ _ _ _ (by omega), if_neg hio])
        have v2 := sK_one (f := cHi (R.set (oldQ t) 0) ls) (g := cHi R ls) (1 + 2 * k) ho (fun i hi hio => by unfold cHi; rw [set_getD _ _ _ _ _ (by omega), if_neg hio])
        have v3 : cLo (R.set (oldQ t) 0) ls (oldQ t) = 0 := by unfold cLo; rw [set_getD _ _ _ _ _ (by omega), if_pos rfl]; rfl
        have v4 : cHi (R.set (oldQ t) 0) ls (oldQ t) = 0 := by unfold cHi; rw [set_getD _ _ _ _ _ (by omega), if_pos rfl]; rfl
        rw [v3, u3] at v1
        rw [v4, u4] at v2
        generalize R.getD (oldQ t) 0 = c at *
        rcases hc with rfl | rfl | rfl
        · have c1 := con_J t (ls.getD (1 + 2 * k) (0, 0)) (ls.getD (2 + 2 * k) (0, 0)) (c := 1) (.inl rfl)
          have g1 : ∀ s : Sp, conS 1 s = s := fun s => rfl
          simp only [g1] at c1 t1 t2 v1 v2 z4
          generalize spJ t (ls.getD (1 + 2 * k) (0, 0)) (ls.getD (2 + 2 * k) (0, 0)) = J at *
          generalize ls.getD (oldQ t) (0, 0) = I at *
          unfold bothS at t1 t2
          dsimp only at t1 t2
          omega
        · have c1 := con_J t (ls.getD (1 + 2 * k) (0, 0)) (ls.getD (2 + 2 * k) (0, 0)) (c := -1) (.inr rfl)
          have g1 : ∀ s : Sp, conS (-1) s = (-s.2, -s.1) := fun s => rfl
          simp only [g1] at c1 t1 t2 v1 v2 z4
          generalize spJ t (ls.getD (1 + 2 * k) (0, 0)) (ls.getD (2 + 2 * k) (0, 0)) = J at *
          generalize ls.getD (oldQ t) (0, 0) = I at *
          unfold bothS at t1 t2
          dsimp only at t1 t2
          omega
        · simp only [c0] at t1 t2 v1 v2
          omega

end Go.Proofs.Ytlbhnicengolfaa
