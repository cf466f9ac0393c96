/-
  A block known whole.
-/
import Derived.Test.YtlbhnicengolfaaData
namespace Go.Proofs.Ytlbhnicengolfaa
open Go.RowKit

theorem _root_.Go.RowKit.Below.of_putObj {W : World} {B l : Nat} (o : Obj) (hl : B ≤ l) : Below B W (W.putObj l o) :=
  ⟨rfl, rfl, rfl, by simp, fun k hk => World.putObj_heap_other (by omega)⟩

/-- Block k is a row of these cells, none frozen. -/
def Blk (W : World) (k : Nat) (cs : Array Value) (t : TypeId) : Prop := W.heap[k]? = some (.cells cs t (0, 0))

theorem Blk.lt {W : World} {k : Nat} {cs : Array Value} {t : TypeId} (h : Blk W k cs t) : k < W.heap.size := (Array.getElem?_eq_some_iff.1 h).1
theorem Blk.cell {W : World} {k : Nat} {cs : Array Value} {t : TypeId} (h : Blk W k cs t) (i : Nat) : W.cell? ⟨k, i, none⟩ = cs[i]? := by
  simp [World.cell?, show W.heap[k]? = _ from h]
theorem Blk.frozen {W : World} {k : Nat} {cs : Array Value} {t : TypeId} (h : Blk W k cs t) (i : Nat) : W.frozen? ⟨k, i, none⟩ = false := by
  simp [World.frozen?, show W.heap[k]? = _ from h]
theorem Blk.new (W : World) (cs : Array Value) (t : TypeId) : Blk (W.alloc (.cells cs t)) W.heap.size cs t := World.alloc_heap_new W _
theorem Blk.alloc {W : World} {k : Nat} {cs : Array Value} {t : TypeId} (h : Blk W k cs t) (o : Obj) : Blk (W.alloc o) k cs t := (Below.heap_alloc W o k h.lt).trans h
theorem Blk.set {W : World} {k : Nat} {cs : Array Value} {t : TypeId} (h : Blk W k cs t) (i : Nat) (v : Value) : Blk (W.setCell ⟨k, i, none⟩ v) k (cs.setIfInBounds i v) t := by
  obtain ⟨hlt, hk⟩ := Array.getElem?_eq_some_iff.1 h
  show (W.heap.modify k _)[k]? = _
  rw [Array.getElem?_eq_getElem (by rw [Array.size_modify]; exact hlt), Array.getElem_modify_self, hk]
  rfl
theorem Blk.other {W : World} {k : Nat} {cs : Array Value} {t : TypeId} (h : Blk W k cs t) {p : Addr} (hne : k ≠ p.block) (v : Value) : Blk (W.setCell p v) k cs t :=
  (Below.heap_setCell W p v k hne).trans h
theorem Blk.grow {W W' : World} {m k : Nat} {cs : Array Value} {t : TypeId} (h : Blk W k cs t) (hg : Grow m W W') : Blk W' k cs t := hg.block _ _ h (.inr rfl)
theorem Blk.below {W W' : World} {k B : Nat} {cs : Array Value} {t : TypeId} (h : Blk W k cs t) (hb : Below B W W') (hk : k < B) : Blk W' k cs t := (hb.block k hk).trans h
theorem Blk.kept {W W' : World} {k : Nat} {cs : Array Value} {t : TypeId} (h : Blk W k cs t) (hb : Below W.heap.size W W') : Blk W' k cs t := (hb.block k h.lt).trans h
theorem Blk.rnd {W W' : World} {D : Nat → Prop} {k : Nat} {cs : Array Value} {t : TypeId} (h : Blk W k cs t) (hr : Rnd D W W') (hk : ¬ D k) : Blk W' k cs t := (hr.block k h.lt hk).trans h
theorem Blk.drew {W : World} {k : Nat} {cs : Array Value} {t : TypeId} (h : Blk W k cs t) : Blk W.drew k cs t := h
theorem Blk.putObj {W : World} {k l : Nat} {cs : Array Value} {t : TypeId} (h : Blk W k cs t) (o : Obj) (hne : k ≠ l) : Blk (W.putObj l o) k cs t := (World.putObj_heap_other hne).trans h

theorem Blk.one {W : World} {k : Nat} {x : Value} {t : TypeId} (h : Blk W k #[x] t) : W.cell? ⟨k, 0, none⟩ = some x ∧ W.frozen? ⟨k, 0, none⟩ = false := ⟨h.cell 0, h.frozen 0⟩
theorem Blk.two {W : World} {k : Nat} {x y : Value} {t : TypeId} (h : Blk W k #[x, y] t) : W.cell? ⟨k, 0, none⟩ = some x ∧ W.cell? ⟨k, 1, none⟩ = some y ∧ W.frozen? ⟨k, 0, none⟩ = false ∧ W.frozen? ⟨k, 1, none⟩ = false :=
  ⟨h.cell 0, h.cell 1, h.frozen 0, h.frozen 1⟩
theorem Blk.three {W : World} {k : Nat} {x y z : Value} {t : TypeId} (h : Blk W k #[x, y, z] t) : W.cell? ⟨k, 0, none⟩ = some x ∧ W.cell? ⟨k, 1, none⟩ = some y ∧ W.cell? ⟨k, 2, none⟩ = some z ∧ W.frozen? ⟨k, 0, none⟩ = false ∧ W.frozen? ⟨k, 1, none⟩ = false ∧ W.frozen? ⟨k, 2, none⟩ = false :=
  ⟨h.cell 0, h.cell 1, h.cell 2, h.frozen 0, h.frozen 1, h.frozen 2⟩
/-- Two cells written. -/
theorem Blk.set2 {W : World} {k : Nat} {x y : Value} {t : TypeId} (h : Blk W k #[x, y] t) (u v : Value) : Blk ((W.setCell ⟨k, 0, none⟩ u).setCell ⟨k, 1, none⟩ v) k #[u, v] t := (h.set 0 u).set 1 v
theorem Blk.other2 {W : World} {j k : Nat} {cs : Array Value} {t : TypeId} (h : Blk W j cs t) (hne : j ≠ k) (u v : Value) : Blk ((W.setCell ⟨k, 0, none⟩ u).setCell ⟨k, 1, none⟩ v) j cs t :=
  (h.other (p := ⟨k, 0, none⟩) hne u).other (p := ⟨k, 1, none⟩) hne v
theorem Blk.drewN {W : World} {k : Nat} {cs : Array Value} {t : TypeId} (h : Blk W k cs t) (n : Nat) : Blk (W.drewN n) k cs t := h
theorem below_set2 {a W : World} {B k : Nat} (h : Below B a W) (hk : B ≤ k) (u v : Value) : Below B a ((W.setCell ⟨k, 0, none⟩ u).setCell ⟨k, 1, none⟩ v) :=
  (h.setCell (p := ⟨k, 0, none⟩) hk u).setCell (p := ⟨k, 1, none⟩) hk v

end Go.Proofs.Ytlbhnicengolfaa
