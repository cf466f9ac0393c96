/-
  Package period: Total, the whole.
-/
import Derived.Test.YtjgebepeghgmcaaPer18
namespace Go.Proofs.Ytjgebepeghgmcaa
open Go.RowKit Go.Shelf
set_option linter.unusedVariables false
set_option linter.unusedSimpArgs false

def leastC (cs : List (List Int)) : List Int := (firstBy (fun x y => decide (sumW x < sumW y)) cs).getD []
def mostC (cs : List (List Int)) : List Int := (firstBy (fun x y => decide (sumW y < sumW x)) cs).getD []
def totalR (l : PLog) : (Int × Int) × Int :=
  if (countsR l).2 ≠ 0 then ((0, 0), (countsR l).2) else if (countsR l).1.length = 0 then ((0, 0), 13) else ((sumW (leastC (countsR l).1), sumW (mostC (countsR l).1)), 0)

theorem firstBy_map {α β : Type} (f : α → β) (bt : β → β → Bool) (xs : List α) : (firstBy (fun x y => bt (f x) (f y)) xs).map f = firstBy bt (xs.map f) := by
  have key : ∀ (xs : List α) (o : Option α), (xs.foldl (pick fun x y => bt (f x) (f y)) o).map f = (xs.map f).foldl (pick bt) (o.map f) := by
    intro xs
    induction xs with
    | nil => intro o; rfl
    | cons x xs ih =>
      intro o
      rw [List.foldl_cons, ih, List.map_cons, List.foldl_cons]
      congr 1
      cases o with
      | none => rfl
      | some b => simp only [pick, Option.map_some]; split <;> rfl
  exact key xs none

theorem cntAll_len : ∀ (k : Nat) (l : PLog) (cs x : List Int), x ∈ cntAll k l cs → x.length = cs.length + k
  | 0, l, cs, x, h => by simp [cntAll] at h; subst h; rfl
  | k + 1, l, cs, x, h => by
    unfold cntAll at h
    obtain ⟨n, _, hn⟩ := List.mem_flatMap.1 h
    split at hn
    · have := cntAll_len k l _ x hn
      simp at this
      omega
    · cases hn
theorem countsR_len {l : PLog} {x : List Int} (h : x ∈ (countsR l).1) : x.length ≤ 8 := by
  unfold countsR at h
  split at h
  · cases h
  · rename_i hc
    split at h
    · cases h
    · have := cntAll_len _ _ _ _ h
      have hl := (lok_of_check (Decidable.not_not.1 hc)).len8
      simp at this
      omega

theorem countsR_count (l : PLog) : (countsR l).1.length ≤ 500 := by
  unfold countsR
  split
  · simp
  · split
    · simp
    · rename_i h; simpa using h

/-- What first returns, of all counts. -/
theorem firstT_any (bt : List Int → List Int → Bool) (bf : Nat) (ps : List PSl) (va : Option Addr) (n vcap : Nat) (W : World) (hn : n = ps.length) (hn1 : n ≤ 500) (hr : Row W W.heap.size va (ps.map slv))
    (hpr : ∀ p ∈ ps, p.2.length ≤ 8 ∧ Row W W.heap.size (some ⟨p.1.1, 0, none⟩) (ints p.2))
    (eb : ∀ args w, (callFunc bf args).run Try.prog w = .ok (.enter bf args) w)
    (hbt : ∀ (x y : PSl) (W : World), Row W W.heap.size (some ⟨x.1.1, 0, none⟩) (ints x.2) → Row W W.heap.size (some ⟨y.1.1, 0, none⟩) (ints y.2) → x.2.length ≤ 1000000 → y.2.length ≤ 1000000 →
      Calls Try.prog bf #[slv x, slv y] W fun e W' => e = .returned (.bool (bt x.2 y.2)) ∧ W = W') :
    Calls Try.prog 41 #[.func (.func 70) #[] #[.pointer (some ⟨W.heap.size, 0, none⟩)], .func (.func bf) #[] #[]] (W.alloc (.cells #[.slice va n vcap] 30)) fun e w' =>
      e = .returned (bestV (firstBy (fun x y => bt x.2 y.2) ps)) ∧ Below W.heap.size (W.alloc (.cells #[.slice va n vcap] 30)) w' := by
  have hbW : Below W.heap.size W (W.alloc (.cells #[.slice va n vcap] 30)) := (Below.refl _ _).alloc (Nat.le_refl _) _
  have hr' := hr.below hbW (Nat.le_refl _)
  refine (firstC_any (fun x y => bt x.2 y.2) ps _ _ (fun k => k = W.heap.size ∨ capR va (ps.map slv) k) bf #[] _
    (values_iter W.heap.size ps va n vcap _ hn (by omega) (Blk.new W _ _) (hr'.mono (by simp))) ?_ (enters_of Try.func70 (by kernel_rfl) rfl) eb ?_).mono fun e w' ⟨h1, h2⟩ => ⟨h1, h2.mono (by simp)⟩
  · rintro k (rfl | hk)
    · simp
    · have := hr'.capLt hk; simp; omega
  · intro x y hx hy W3 hb3
    refine (hbt x y W3 ?_ ?_ (by have := (hpr x hx).1; omega) (by have := (hpr y hy).1; omega)).mono fun e W' ⟨h1, h2⟩ => ⟨h1, h2 ▸ Below.refl _ _⟩
    · exact ((((hpr x hx).2.below hbW (Nat.le_refl _)).below hb3 (by simp)).mono (by have := hb3.size; simp at this; omega))
    · exact ((((hpr y hy).2.below hbW (Nat.le_refl _)).below hb3 (by simp)).mono (by have := hb3.size; simp at this; omega))

/-- The sum of what first returns. -/
theorem sum_best {w : World} {o : Option PSl} (h : ∀ p, o = some p → Row w w.heap.size (some ⟨p.1.1, 0, none⟩) (ints p.2) ∧ p.2.length ≤ 8) :
    Calls Try.prog 44 #[bestV o] w fun e w' => e = .returned (.int .i64 (sumW ((o.map (·.2)).getD []))) ∧ w = w' := by
  cases o with
  | none => exact sum_any [] none 0 0 w.heap.size w rfl (by decide) (.inl rfl)
  | some p => exact sum_any p.2 (some ⟨p.1.1, 0, none⟩) p.2.length p.1.2 w.heap.size w rfl (by have := (h p rfl).2; omega) (h p rfl).1

set_option maxRecDepth 100000 in
set_option maxHeartbeats 4000000 in
theorem totalF_any (l : PLog) (a : Option Addr) (n cap : Nat) (w : World) (hn : n = l.ps.length) (hn1 : n ≤ 1000000000) (hp : Row w w.heap.size a (spans l.ps)) :
    Calls Try.prog 17 #[.agg #[.int .i64 l.lo, .int .i64 l.hi, .slice a n cap]] w fun e w' =>
      e = .returned (.tuple #[.agg #[.int .i64 (totalR l).1.1, .int .i64 (totalR l).1.2], .int .i64 (totalR l).2]) ∧ Below w.heap.size w w' := by
  have HCT := hide (fun (W : World) (hp : Row W W.heap.size a (spans l.ps)) => countsF_any l a n cap W hn hn1 hp)
  clear hn hn1
  go_enter Try.func17, Try.ntmps17
  go_wp2_with fail
  generalize hW : World.alloc (World.alloc w _) _ = V
  have hB : Below w.heap.size w V := by rw [← hW]; exact ((Below.refl _ _).alloc (Nat.le_refl _) _).alloc (by simp) _
  have b1 : Blk V (w.heap.size + 1) #[.int .i64 0, .int .i64 0] 23 := by rw [← hW]; exact (by simpa using Blk.new (World.alloc w _) _ _)
  have hsV := hB.size
  have hpV := hp.below hB (Nat.le_refl _)
  clear hW hp
  refine (HCT.out V (hpV.mono hsV)).mono ?_
  rintro e W1 ⟨v, rfl, hrows, hb1⟩
  have c1 := b1.kept hb1
  have hB1 := hB.trans (hb1.mono hsV)
  have hs1 := hB1.size
  obtain ⟨ps, hps, ⟨va, vcap, rfl, hvc, hvr⟩, hpr⟩ := hrows
  clear b1 hB hb1 hsV hpV
  obtain ⟨u0, u1, f0, f1⟩ := c1.two
  have y1 := c1.lt
  by_cases hck : (countsR l).2 = 0
  · by_cases hlen : (countsR l).1.length = 0
    · have HR : Hid (totalR l = ((0, 0), 13)) := hide (by unfold totalR; rw [if_neg (by simpa using hck), if_pos hlen])
      have h0 : ((countsR l).2 != 0) = false := by simpa using hck
      have h1 : (((countsR l).1.length : Int) == 0) = true := by simpa using hlen
      clear hck hlen
      go_wp2_with fail
      have q2 := c1.set2 (.int .i64 0) (.int .i64 0)
      have hBf := below_set2 hB1 (k := w.heap.size + 1) (by omega) (.int .i64 0) (.int .i64 0)
      refine bodyPost_ret (v := .tuple #[.agg #[.int .i64 0, .int .i64 0], .int .i64 13]) (by simp [results, Try.results17, go_sem, q2.two]) rfl ⟨by rw [HR.out], hBf⟩
    · have HR : Hid (totalR l = ((sumW (leastC (countsR l).1), sumW (mostC (countsR l).1)), 0)) := hide (by unfold totalR; rw [if_neg (by simpa using hck), if_neg hlen])
      have h0 : ((countsR l).2 != 0) = false := by simpa using hck
      have h1 : (((countsR l).1.length : Int) == 0) = false := by rw [beq_eq_false_iff_ne]; omega
      have hl8 : ∀ p ∈ ps, p.2.length ≤ 8 := fun p hp => countsR_len (l := l) (by rw [← hps]; exact List.mem_map_of_mem (f := (·.2)) hp)
      have hcn := countsR_count l
      have hnn : (countsR l).1.length = ps.length := by rw [← hps]; simp
      have HNN := hide hnn
      have HPS := hide hps
      clear hck hlen hnn hps
      generalize (countsR l).2 = E at *
      generalize hcl : (countsR l).1.length = N at *
      clear hcl
      go_wp2_with fail
      refine (values_any va N vcap W1).mono ?_
      rintro e W2 ⟨rfl, rfl⟩
      go_wp2_with fail
      refine (firstT_any (fun x y => decide (sumW x < sumW y)) 43 ps va N vcap W1 HNN.out hcn hvr (fun p hp => ⟨hl8 p hp, (hpr p hp).2⟩) (enters_of Try.func43 (by kernel_rfl) rfl) (fun x y W h1 h2 h3 h4 => total1_any x y W h1 h2 h3 h4)).mono ?_
      rintro e W3 ⟨rfl, hb3⟩
      have hB3 : Below W1.heap.size W1 W3 := ((Below.refl _ _).alloc (Nat.le_refl _) _).trans hb3
      have hvr3 := (hvr.below hB3 (Nat.le_refl _)).mono hB3.size
      have hpr3 := fun p hp => ((hpr p hp).2.below hB3 (Nat.le_refl _)).mono hB3.size
      clear hb3 hvr u0 u1 f0 f1
      go_wp2_with fail
      refine (values_any va N vcap W3).mono ?_
      rintro e W4 ⟨rfl, rfl⟩
      go_wp2_with fail
      refine (firstT_any (fun x y => decide (sumW y < sumW x)) 45 ps va N vcap W3 HNN.out hcn hvr3 (fun p hp => ⟨hl8 p hp, hpr3 p hp⟩) (enters_of Try.func45 (by kernel_rfl) rfl) (fun x y W h1 h2 h3 h4 => total2_any x y W h1 h2 h3 h4)).mono ?_
      rintro e W5 ⟨rfl, hb5⟩
      have hB5 : Below W3.heap.size W3 W5 := ((Below.refl _ _).alloc (Nat.le_refl _) _).trans hb5
      have hpr5 := fun p hp => ((hpr3 p hp).below hB5 (Nat.le_refl _)).mono hB5.size
      have hB15 := hB3.trans (hB5.mono hB3.size)
      have c5 := c1.kept hB15
      have hBw := hB1.trans (hB15.mono hs1)
      clear hb5 hB3 hB5 c1
      obtain ⟨u0, u1, f0, f1⟩ := c5.two
      have y5 := c5.lt
      go_wp2_with fail
      refine (sum_best (w := W5) (o := firstBy (fun x y => decide (sumW x.2 < sumW y.2)) ps) (fun p hp => ⟨hpr5 p (firstBy_mem _ _ _ hp), hl8 p (firstBy_mem _ _ _ hp)⟩)).mono ?_
      rintro e W6 ⟨rfl, rfl⟩
      go_wp2_with fail
      refine (sum_best (w := W5) (o := firstBy (fun x y => decide (sumW y.2 < sumW x.2)) ps) (fun p hp => ⟨hpr5 p (firstBy_mem _ _ _ hp), hl8 p (firstBy_mem _ _ _ hp)⟩)).mono ?_
      rintro e W6 ⟨rfl, rfl⟩
      have hm1 : ((firstBy (fun x y => decide (sumW x.2 < sumW y.2)) ps).map (·.2)).getD [] = leastC (countsR l).1 := by rw [firstBy_map (fun p : PSl => p.2) (fun x y => decide (sumW x < sumW y)) ps, HPS.out]; rfl
      have hm2 : ((firstBy (fun x y => decide (sumW y.2 < sumW x.2)) ps).map (·.2)).getD [] = mostC (countsR l).1 := by rw [firstBy_map (fun p : PSl => p.2) (fun x y => decide (sumW y < sumW x)) ps, HPS.out]; rfl
      rw [hm1, hm2]
      clear hm1 hm2
      generalize sumW (leastC (countsR l).1) = s1 at *
      generalize sumW (mostC (countsR l).1) = s2 at *
      go_wp2_with fail
      have q2 := c5.set2 (.int .i64 s1) (.int .i64 s2)
      have hBf := below_set2 hBw (k := w.heap.size + 1) (by omega) (.int .i64 s1) (.int .i64 s2)
      refine bodyPost_ret (v := .tuple #[.agg #[.int .i64 s1, .int .i64 s2], .int .i64 0]) (by simp [results, Try.results17, go_sem, q2.two]) rfl ⟨by rw [HR.out], hBf⟩
  · have HR : Hid (totalR l = ((0, 0), (countsR l).2)) := hide (by unfold totalR; rw [if_pos hck])
    have h0 : ((countsR l).2 != 0) = true := by rw [bne_iff_ne]; exact hck
    clear hck
    go_wp2_with fail
    have q2 := c1.set2 (.int .i64 0) (.int .i64 0)
    have hBf := below_set2 hB1 (k := w.heap.size + 1) (by omega) (.int .i64 0) (.int .i64 0)
    refine bodyPost_ret (v := .tuple #[.agg #[.int .i64 0, .int .i64 0], .int .i64 (countsR l).2]) (by simp [results, Try.results17, go_sem, q2.two]) rfl ⟨by rw [HR.out], hBf⟩

end Go.Proofs.Ytjgebepeghgmcaa
