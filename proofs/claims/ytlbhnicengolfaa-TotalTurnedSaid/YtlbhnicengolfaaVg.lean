/-
  Package total: group, its closure.
-/
import Derived.Test.YtlbhnicengolfaaLinks
namespace Go.Proofs.Ytlbhnicengolfaa
open Go.RowKit
set_option linter.unusedVariables false
set_option linter.unusedSimpArgs false

/-- What visit turns. -/
structure GS where
  out : List Int
  left : Int
  good : Bool
/-- One triangle that is linked at q: visitor, counter, state. -/
def gO (vis : Int → Int → Int → GS → GS) (ts : List Tri) (l : List Int) (i q from_ own : Int) (p : Int × GS) (o : Int) : Int × GS :=
  if o ∉ l then p else if o = i ∨ q = from_ then (p.1 + 1, p.2)
  else (p.1 + 1, if 0 < p.2.left then vis o (if (tri ts o.toNat).2.2 = q then own else -own) q p.2 else p.2)
def addO (out : List Int) (q own : Int) : List Int := out.set q.toNat (wrap64 (out.getD q.toNat 0 + own))
/-- One corner. -/
def gC (vis : Int → Int → Int → GS → GS) (ts : List Tri) (l : List Int) (lk : Int → List Int) (i from_ own q : Int) (st : GS) : GS :=
  let p := (lk q).foldl (gO vis ts l i q from_ own) (0, { st with out := addO st.out q own })
  { p.2 with good := p.2.good && decide (p.1 < 3) }
def ownAt (sign : Int) (k : Nat) : Int := if k = 2 then -sign else sign
def cAt (t : Tri) (k : Nat) : Int := (cor t).getD k 0
def vg (ts : List Tri) (l : List Int) (lk : Int → List Int) : Nat → Int → Int → Int → GS → GS
  | 0, _, _, _, st => st
  | f + 1, i, sign, from_, st => (List.range 3).foldl (fun st k => gC (vg ts l lk f) ts l lk i from_ (ownAt sign k) (cAt (tri ts i.toNat) k) st) { st with left := st.left - 1 }

/-! ### lengths, and what is left -/
theorem addO_len (out : List Int) (q own : Int) : (addO out q own).length = out.length := by simp [addO]
def Mn (N : Nat) (a b : GS) : Prop := b.left ≤ a.left ∧ (a.out.length = N → b.out.length = N) ∧ (0 ≤ a.left → 0 ≤ b.left)
theorem Mn.refl (N : Nat) (a : GS) : Mn N a a := ⟨Int.le_refl _, id, id⟩
theorem Mn.trans {N : Nat} {a b c : GS} (h : Mn N a b) (k : Mn N b c) : Mn N a c := ⟨Int.le_trans k.1 h.1, fun x => k.2.1 (h.2.1 x), fun x => k.2.2 (h.2.2 x)⟩
theorem gO_mn {N : Nat} {vis : Int → Int → Int → GS → GS} (hv : ∀ o s q st, 0 < st.left → Mn N st (vis o s q st)) (ts : List Tri) (l : List Int) (i q from_ own : Int) (p : Int × GS) (o : Int) : Mn N p.2 (gO vis ts l i q from_ own p o).2 := by
  unfold gO
  split
  · exact .refl _ _
  · split
    · exact .refl _ _
    · dsimp only
      split
      · rename_i h; exact hv _ _ _ _ h
      · exact .refl _ _
theorem gOs_mn {N : Nat} {vis : Int → Int → Int → GS → GS} (hv : ∀ o s q st, 0 < st.left → Mn N st (vis o s q st)) (ts : List Tri) (l : List Int) (i q from_ own : Int) : ∀ (xs : List Int) (p : Int × GS), Mn N p.2 (xs.foldl (gO vis ts l i q from_ own) p).2
  | [], p => .refl _ _
  | x :: xs, p => (gO_mn hv ts l i q from_ own p x).trans (gOs_mn hv ts l i q from_ own xs _)
theorem gC_mn {N : Nat} {vis : Int → Int → Int → GS → GS} (hv : ∀ o s q st, 0 < st.left → Mn N st (vis o s q st)) (ts : List Tri) (l : List Int) (lk : Int → List Int) (i from_ own q : Int) (st : GS) : Mn N st (gC vis ts l lk i from_ own q st) := by
  have h := gOs_mn hv ts l i q from_ own (lk q) (0, { st with out := addO st.out q own })
  exact ⟨h.1, fun x => h.2.1 (by simpa [addO] using x), h.2.2⟩
theorem gCs_mn {N : Nat} {vis : Int → Int → Int → GS → GS} (hv : ∀ o s q st, 0 < st.left → Mn N st (vis o s q st)) (ts : List Tri) (l : List Int) (lk : Int → List Int) (i from_ : Int) (g h : Nat → Int) : ∀ (xs : List Nat) (st : GS), Mn N st (xs.foldl (fun st k => gC vis ts l lk i from_ (g k) (h k) st) st)
  | [], st => .refl _ _
  | x :: xs, st => (gC_mn hv ts l lk i from_ _ _ st).trans (gCs_mn hv ts l lk i from_ g h xs _)
theorem vg_mn (N : Nat) (ts : List Tri) (l : List Int) (lk : Int → List Int) : ∀ (f : Nat) (i sign from_ : Int) (st : GS), 0 < st.left → Mn N st (vg ts l lk f i sign from_ st)
  | 0, i, sign, from_, st, _ => .refl _ _
  | f + 1, i, sign, from_, st, h => by
    have h1 : Mn N st { st with left := st.left - 1 } := ⟨by show st.left - 1 ≤ st.left; omega, id, fun _ => by show 0 ≤ st.left - 1; omega⟩
    exact h1.trans (gCs_mn (fun o s q st' h' => vg_mn N ts l lk f o s q st' h') ts l lk i from_ _ _ _ _)

theorem ints_set (xs : List Int) (q : Nat) (v : Int) : (ints xs).toArray.setIfInBounds q (.int .i64 v) = (ints (xs.set q v)).toArray := by
  apply Array.ext'
  simp [ints, List.map_set]

/-! ### the frame of visit, in memory -/
def visF (s bN bl : Nat) : Value := .func (.func 70) #[] #[.pointer (some ⟨s + 3, 0, none⟩), .pointer (some ⟨bN, 0, none⟩), .pointer (some ⟨s + 2, 0, none⟩), .pointer (some ⟨s, 0, none⟩), .pointer (some ⟨bl, 0, none⟩), .pointer (some ⟨s + 5, 0, none⟩), .pointer (some ⟨s + 4, 0, none⟩)]

/-- What stays while visit runs: made in the world W0, of s blocks. -/
structure GFix (W0 : World) (s MB N : Nat) (bN bl : Nat) (W : World) : Prop where
  hs : W0.heap.size = s
  be : Below s W0 W
  k6 : Blk W s #[.map (some MB)] 114
  k7 : Blk W (s + 2) #[.slice (some ⟨s + 1, 0, none⟩) N N] 38
  k10 : Blk W (s + 5) #[visF s bN bl] 116
structure GSt (s : Nat) (st : GS) (W : World) : Prop where
  left : Blk W (s + 3) #[.int .i64 st.left] 3
  good : Blk W (s + 4) #[.bool st.good] 4
  out : Blk W (s + 1) (ints st.out).toArray 3
theorem GFix.kept {W0 : World} {s MB N bN bl : Nat} {W W' : World} (h : GFix W0 s MB N bN bl W) (hb : Below W.heap.size W W') : GFix W0 s MB N bN bl W' :=
  ⟨h.hs, h.be.trans (hb.mono (by have := h.k6.lt; omega)), h.k6.kept hb, h.k7.kept hb, h.k10.kept hb⟩
theorem GSt.kept {s : Nat} {st : GS} {W W' : World} (h : GSt s st W) (hb : Below W.heap.size W W') : GSt s st W' := ⟨h.left.kept hb, h.good.kept hb, h.out.kept hb⟩
theorem GFix.set {W0 : World} {s MB N bN bl : Nat} {W : World} (h : GFix W0 s MB N bN bl W) {b : Nat} (hb : b = s + 1 ∨ b = s + 3 ∨ b = s + 4) (i : Nat) (v : Value) : GFix W0 s MB N bN bl (W.setCell ⟨b, i, none⟩ v) :=
  ⟨h.hs, h.be.setCell (p := ⟨b, i, none⟩) (show s ≤ b by omega) v, h.k6.other (p := ⟨b, i, none⟩) (show s ≠ b by omega) v, h.k7.other (p := ⟨b, i, none⟩) (show s + 2 ≠ b by omega) v, h.k10.other (p := ⟨b, i, none⟩) (show s + 5 ≠ b by omega) v⟩
theorem GSt.setLeft {s : Nat} {st : GS} {W : World} (h : GSt s st W) (x : Int) : GSt s { st with left := x } (W.setCell ⟨s + 3, 0, none⟩ (.int .i64 x)) :=
  ⟨h.left.set 0 _, h.good.other (p := ⟨s + 3, 0, none⟩) (show s + 4 ≠ s + 3 by omega) _, h.out.other (p := ⟨s + 3, 0, none⟩) (show s + 1 ≠ s + 3 by omega) _⟩
theorem GSt.setGood {s : Nat} {st : GS} {W : World} (h : GSt s st W) (x : Bool) : GSt s { st with good := x } (W.setCell ⟨s + 4, 0, none⟩ (.bool x)) :=
  ⟨h.left.other (p := ⟨s + 4, 0, none⟩) (show s + 3 ≠ s + 4 by omega) _, h.good.set 0 _, h.out.other (p := ⟨s + 4, 0, none⟩) (show s + 1 ≠ s + 4 by omega) _⟩
theorem GSt.setOut {s : Nat} {st : GS} {W : World} (h : GSt s st W) (q : Nat) (x : Int) : GSt s { st with out := st.out.set q x } (W.setCell ⟨s + 1, q, none⟩ (.int .i64 x)) :=
  ⟨h.left.other (p := ⟨s + 1, q, none⟩) (show s + 3 ≠ s + 1 by omega) _, h.good.other (p := ⟨s + 1, q, none⟩) (show s + 4 ≠ s + 1 by omega) _, by have := h.out.set q (.int .i64 x); rw [ints_set] at this; exact this⟩
theorem GSt.cell {s : Nat} {st : GS} {W : World} (h : GSt s st W) {q : Nat} (hq : q < st.out.length) : W.cell? ⟨s + 1, q, none⟩ = some (.int .i64 (st.out.getD q 0)) ∧ W.frozen? ⟨s + 1, q, none⟩ = false := by
  refine ⟨?_, h.out.frozen q⟩
  rw [h.out.cell q]
  simp [ints, List.getD, hq]

/-- What is fixed below s: the net, the group, the links. -/
structure GIn (W0 : World) (s MB base N : Nat) (bN bl : Nat) (ts : List Tri) (l : List Int) (lk : Int → List Int) (sa ta la : Option Addr) (sc tn tc ln lc : Nat) : Prop where
  net : Blk W0 bN #[.slice sa N sc, .slice ta tn tc] 25
  lb : Blk W0 bl #[.slice la ln lc] 38
  rt : Row W0 s ta (tris ts)
  rl : Row W0 s la (ints l)
  grp : GrpAt W0 MB base 15 lk
  htn : tn = ts.length
  htc : tn ≤ tc
  ht5 : tn ≤ 5
  hln : ln = l.length
  hl5 : ln ≤ 1000
  hN : N ≤ 11
  hlk : ∀ q x, x ∈ lk q → 0 ≤ x ∧ x < tn
  hin : ∀ t ∈ ts, ∀ o ∈ cor t, 0 ≤ o ∧ o < N

def VgSpec (f : Nat) (W0 : World) (s MB N bN bl : Nat) (ts : List Tri) (l : List Int) (lk : Int → List Int) (tn : Nat) : Prop :=
  ∀ (i sign from_ : Int) (st : GS) (W : World), 0 ≤ i → i < tn → -1 ≤ sign → sign ≤ 1 → 1 ≤ st.left → st.left ≤ f → st.left ≤ 1000 → st.out.length = N → GFix W0 s MB N bN bl W → GSt s st W →
    Calls Try.prog 70 #[.int .i64 i, .int .i64 sign, .int .i64 from_, .pointer (some ⟨s + 3, 0, none⟩), .pointer (some ⟨bN, 0, none⟩), .pointer (some ⟨s + 2, 0, none⟩), .pointer (some ⟨s, 0, none⟩), .pointer (some ⟨bl, 0, none⟩), .pointer (some ⟨s + 5, 0, none⟩), .pointer (some ⟨s + 4, 0, none⟩)] W fun e W' =>
      e = .returned (.tuple #[]) ∧ GFix W0 s MB N bN bl W' ∧ GSt s (vg ts l lk f i sign from_ st) W'

end Go.Proofs.Ytlbhnicengolfaa
