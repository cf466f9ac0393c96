/-
  A look-up in a map of slices, behind changes of newer blocks.
-/
import Derived.Test.YtlbhnicengolfaaVg
namespace Go.Proofs.Ytlbhnicengolfaa
open Go.RowKit
open Go.ChangeShapes (lits)
set_option linter.unusedVariables false
set_option linter.unusedSimpArgs false

theorem GrpAt.look_in {W0 W : World} {s b base n : Nat} {f : Int → List Int} (h : GrpAt W0 b base n f) (hs : W0.heap.size = s) (hb : Below s W0 W) (hn : n ≤ 1000) {x : Int} (h0 : 0 ≤ x) (h1 : x ≤ 1000000) :
    ∃ (va : Option Addr) (vcap : Nat), (Instr.lookup 114 (.map (some b)) (.int .i64 x) false).run Try.prog W = .ok (.slice va (f x).length vcap) W ∧ (f x).length ≤ n ∧ (f x).length ≤ vcap ∧ vcap ≤ 9223372036854775807 ∧ Row W0 s va (ints (f x)) := by
  have hbl := h.lt
  obtain ⟨D0, ho0, hi0, ha0⟩ := h
  have hsh0 : W.Shuns b (fun g => s ≤ g) := ((World.Shuns.reno (No := fun _ => False) (fun _ _ _ _ _ _ _ h => h) ho0 (No' := fun g => s ≤ g) (fun g hg => .inr (by omega)))).kept (row := none) (grownBy_below (hs ▸ hb) none) hbl (by simp)
  obtain ⟨D, ho, hi, ha⟩ := GrpAt.below ⟨D0, ho0, hi0, ha0⟩ (hs ▸ hb)
  obtain ⟨v, zs, hrun, hat, hoi, hzl, hback⟩ := ho.at (t := 114) (E := 38) (Maps.int_keyed Try.underlying3) Try.underlying114 (by kernel_rfl) (by unfold maxLen; omega) (key64 h0 h1)
  rw [ha x] at hat
  have e : zs = f x := by
    rcases hoi.datum (H := Unit) with ⟨hd, hz⟩ | hd
    · rw [hd] at hat
      unfold encL at hat
      split at hat
      · rename_i h; rw [hz, h]
      · cases hat
    · rw [hd] at hat
      unfold encL at hat
      split at hat
      · cases hat
      · have h1 := congrArg (fun d : DataW Unit => match d with | .slice xs _ => xs | _ => []) hat
        exact (lits_inj h1).symm
  subst e
  have hg : ∀ g, v.ownBlock = some g → g < s := by
    obtain ⟨es, clock, hbk, F, _⟩ := ho
    rcases Maps.fit_look false (Maps.int_keyed Try.underlying3) Try.underlying114 (w := W) (z := .slice none 0 0) (by kernel_rfl) hbk F (key64 h0 h1) with ⟨hrun', _, _⟩ | ⟨e0, y, hm0, _, hrun', _, _, _⟩
    · rw [hrun] at hrun'
      obtain rfl : v = .slice none 0 0 := by simpa using hrun'
      intro g hg'
      cases hg'
    · rw [hrun] at hrun'
      obtain rfl : v = e0.val := by simpa using hrun'
      exact fun g hg' => Nat.lt_of_not_le (hsh0 es clock hbk e0 hm0 g hg')
  obtain ⟨va, vcap, rfl, hvc, hvm⟩ := own_shape hoi.1
  refine ⟨va, vcap, hrun, hzl, hvc, by unfold maxLen at hvm; exact hvm, ?_⟩
  rcases hoi.1.2 with ⟨hv, h00⟩ | ⟨g, cp, cur, hv, _, hc, _, _, _, ht⟩
  · exact .inl (by rw [List.eq_nil_of_length_eq_zero h00]; rfl)
  · injection hv with hv1
    subst hv1
    have hgs := hg g rfl
    have hr := row_of_heap hc (vs := ints (f x)) (by rw [ints_length]; simpa [ints] using ht)
    exact (hr.mono (by omega : g + 1 ≤ s)).at fun k hk => by
      obtain ⟨_, ad, e, rfl⟩ := hk
      cases e
      exact (hb.block g hgs).symm

end Go.Proofs.Ytlbhnicengolfaa
