/-
  Package period: Total.
-/
import Derived.Test.YtjgebepeghgmcaaPer17
namespace Go.Proofs.Ytjgebepeghgmcaa
open Go.RowKit Go.Shelf
set_option linter.unusedVariables false
set_option linter.unusedSimpArgs false

theorem total1_any (p q : PSl) (w : World) (hp : Row w w.heap.size (some ⟨p.1.1, 0, none⟩) (ints p.2)) (hq : Row w w.heap.size (some ⟨q.1.1, 0, none⟩) (ints q.2)) (h1 : p.2.length ≤ 1000000) (h2 : q.2.length ≤ 1000000) :
    Calls Try.prog 43 #[slv p, slv q] w fun e w' => e = .returned (.bool (decide (sumW p.2 < sumW q.2))) ∧ w = w' := by
  have HP := hide (sum_any p.2 (some ⟨p.1.1, 0, none⟩) p.2.length p.1.2 w.heap.size w rfl h1 hp)
  have HQ := hide (sum_any q.2 (some ⟨q.1.1, 0, none⟩) q.2.length q.1.2 w.heap.size w rfl h2 hq)
  unfold slv
  clear hp hq h1 h2
  go_enter Try.func43, Try.ntmps43
  go_wp2_with fail
  refine HP.out.mono ?_
  rintro e w1 ⟨rfl, rfl⟩
  go_wp2_with fail
  refine HQ.out.mono ?_
  rintro e w1 ⟨rfl, rfl⟩
  go_wp2_with fail
  go_ret
  exact ⟨rfl, rfl⟩

theorem total2_any (p q : PSl) (w : World) (hp : Row w w.heap.size (some ⟨p.1.1, 0, none⟩) (ints p.2)) (hq : Row w w.heap.size (some ⟨q.1.1, 0, none⟩) (ints q.2)) (h1 : p.2.length ≤ 1000000) (h2 : q.2.length ≤ 1000000) :
    Calls Try.prog 45 #[slv p, slv q] w fun e w' => e = .returned (.bool (decide (sumW q.2 < sumW p.2))) ∧ w = w' := by
  have HP := hide (sum_any p.2 (some ⟨p.1.1, 0, none⟩) p.2.length p.1.2 w.heap.size w rfl h1 hp)
  have HQ := hide (sum_any q.2 (some ⟨q.1.1, 0, none⟩) q.2.length q.1.2 w.heap.size w rfl h2 hq)
  unfold slv
  clear hp hq h1 h2
  go_enter Try.func45, Try.ntmps45
  go_wp2_with fail
  refine HP.out.mono ?_
  rintro e w1 ⟨rfl, rfl⟩
  go_wp2_with fail
  refine HQ.out.mono ?_
  rintro e w1 ⟨rfl, rfl⟩
  go_wp2_with fail
  go_ret
  exact ⟨rfl, rfl⟩

end Go.Proofs.Ytjgebepeghgmcaa
