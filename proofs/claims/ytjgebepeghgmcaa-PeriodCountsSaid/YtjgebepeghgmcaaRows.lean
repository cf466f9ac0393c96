/-
  No cell of these rows narrows 'for every input' (looked for: loops, veiled, ifaces, maps, wideKeys, modest, calm, conditions, laid).
  DERIVED. THE GIVEN ROWS OF THIS SEAT. 10 by the template 'for every input the law returns true; each argument reads behind the call as it read before'; 0 by the template 'total and deterministic' (their statements: YtjgebepeghgmcaaTotals.lean).
  GIVEN WITH THE SEED: the statements are not yours to turn. If you find one false, say at which input.
  Laid BY PROGRAM, IN A SANDBOX (cutbox-rows.mjs): the forced cells as the released guide's own fill.sh prints them over the translation 1ff5a349ab4ca002… (all of the seat's roots in one cut). By AI agents, Wed Nov 11 2026. No macro, syntax, notation, axiom, sorry.
-/
import Derived.Test.YtjgebepeghgmcaaChecked
import GoSem.Claim
import GoSem.ClaimJoined
import GoSem.ClaimMapViews
import Derived.JoinedTies
import Derived.KernelRfl
namespace Go.Proofs.Ytjgebepeghgmcaa
/- THE CELL 'sum', in the pinned program and in every row, IS THE sha256 OF THE DUMP (.gsa) THAT YtjgebepeghgmcaaProg.lean LOADS. Nothing in Lean hashes anything: it is a label: what it is worth is what the hold of that sum in a sandbox is worth. -/
noncomputable def Try.pinned : Pinned := { name := "ytjgebepeghgmcaa", sum := "1ff5a349ab4ca0023f51047f3c7957437ff4eaaf9cfd8094f5e88c20c88e3e74", checked := Try.checked }
namespace Rows
def none {H : Type} : Left H := { results := [], args := [] }

/-- 'agoniclaw08.PeriodCounts': WHATEVER THE INPUT: true; the input reads as it did. -/
def periodCountsSpec : ChangeSpec := { name := "periodCounts", fn := fun _ => fun
  | [d] => { results := [.lit (.bool true)], args := [d] }
  | _ => none }
def periodCountsRow : OpenClaim := { program := "ytjgebepeghgmcaa", sum := "1ff5a349ab4ca0023f51047f3c7957437ff4eaaf9cfd8094f5e88c20c88e3e74", func := "agonic/agoniclaw08.PeriodCounts", spec := "periodCounts", unfollowed := true, recurses := true, apart := false }
def PeriodCountsSaid : Prop := periodCountsRow.holds Try.pinned (OpenSpec.ofChange periodCountsSpec)

/-- ITS FALSE NEIGHBOUR: 'it returns false'. Refute it at one input. -/
def periodCountsWrong : ChangeSpec := { name := "periodCounts", fn := fun _ => fun
  | [d] => { results := [.lit (.bool false)], args := [d] }
  | _ => none }
def PeriodCountsWrongFalsely : Prop := periodCountsRow.holds Try.pinned (OpenSpec.ofChange periodCountsWrong)

/-- 'agoniclaw08.PeriodFractions': WHATEVER THE INPUT: true; the input reads as it did. -/
def periodFractionsSpec : ChangeSpec := { name := "periodFractions", fn := fun _ => fun
  | [d1, d2, d3] => { results := [.lit (.bool true)], args := [d1, d2, d3] }
  | _ => none }
def periodFractionsRow : OpenClaim := { program := "ytjgebepeghgmcaa", sum := "1ff5a349ab4ca0023f51047f3c7957437ff4eaaf9cfd8094f5e88c20c88e3e74", func := "agonic/agoniclaw08.PeriodFractions", spec := "periodFractions", unfollowed := true, recurses := true, apart := false }
def PeriodFractionsSaid : Prop := periodFractionsRow.holds Try.pinned (OpenSpec.ofChange periodFractionsSpec)

/-- ITS FALSE NEIGHBOUR: 'it returns false'. Refute it at one input. -/
def periodFractionsWrong : ChangeSpec := { name := "periodFractions", fn := fun _ => fun
  | [d1, d2, d3] => { results := [.lit (.bool false)], args := [d1, d2, d3] }
  | _ => none }
def PeriodFractionsWrongFalsely : Prop := periodFractionsRow.holds Try.pinned (OpenSpec.ofChange periodFractionsWrong)

/-- 'agoniclaw08.PeriodTried': WHATEVER THE INPUT: true; the input reads as it did. -/
def periodTriedSpec : ChangeSpec := { name := "periodTried", fn := fun _ => fun
  | [d] => { results := [.lit (.bool true)], args := [d] }
  | _ => none }
def periodTriedRow : OpenClaim := { program := "ytjgebepeghgmcaa", sum := "1ff5a349ab4ca0023f51047f3c7957437ff4eaaf9cfd8094f5e88c20c88e3e74", func := "agonic/agoniclaw08.PeriodTried", spec := "periodTried", unfollowed := true, recurses := true, apart := false }
def PeriodTriedSaid : Prop := periodTriedRow.holds Try.pinned (OpenSpec.ofChange periodTriedSpec)

/-- ITS FALSE NEIGHBOUR: 'it returns false'. Refute it at one input. -/
def periodTriedWrong : ChangeSpec := { name := "periodTried", fn := fun _ => fun
  | [d] => { results := [.lit (.bool false)], args := [d] }
  | _ => none }
def PeriodTriedWrongFalsely : Prop := periodTriedRow.holds Try.pinned (OpenSpec.ofChange periodTriedWrong)

/-- 'agoniclaw08.PeriodProved': WHATEVER THE INPUT: true; the input reads as it did. -/
def periodProvedSpec : ChangeSpec := { name := "periodProved", fn := fun _ => fun
  | [d1, d2, d3] => { results := [.lit (.bool true)], args := [d1, d2, d3] }
  | _ => none }
def periodProvedRow : OpenClaim := { program := "ytjgebepeghgmcaa", sum := "1ff5a349ab4ca0023f51047f3c7957437ff4eaaf9cfd8094f5e88c20c88e3e74", func := "agonic/agoniclaw08.PeriodProved", spec := "periodProved", unfollowed := true, recurses := true, apart := false }
def PeriodProvedSaid : Prop := periodProvedRow.holds Try.pinned (OpenSpec.ofChange periodProvedSpec)

/-- ITS FALSE NEIGHBOUR: 'it returns false'. Refute it at one input. -/
def periodProvedWrong : ChangeSpec := { name := "periodProved", fn := fun _ => fun
  | [d1, d2, d3] => { results := [.lit (.bool false)], args := [d1, d2, d3] }
  | _ => none }
def PeriodProvedWrongFalsely : Prop := periodProvedRow.holds Try.pinned (OpenSpec.ofChange periodProvedWrong)

/-- 'agoniclaw08.PeriodTrue': WHATEVER THE INPUT: true; the input reads as it did. -/
def periodTrueSpec : ChangeSpec := { name := "periodTrue", fn := fun _ => fun
  | [d1, d2, d3, d4] => { results := [.lit (.bool true)], args := [d1, d2, d3, d4] }
  | _ => none }
def periodTrueRow : OpenClaim := { program := "ytjgebepeghgmcaa", sum := "1ff5a349ab4ca0023f51047f3c7957437ff4eaaf9cfd8094f5e88c20c88e3e74", func := "agonic/agoniclaw08.PeriodTrue", spec := "periodTrue", unfollowed := true, recurses := true, apart := false }
def PeriodTrueSaid : Prop := periodTrueRow.holds Try.pinned (OpenSpec.ofChange periodTrueSpec)

/-- ITS FALSE NEIGHBOUR: 'it returns false'. Refute it at one input. -/
def periodTrueWrong : ChangeSpec := { name := "periodTrue", fn := fun _ => fun
  | [d1, d2, d3, d4] => { results := [.lit (.bool false)], args := [d1, d2, d3, d4] }
  | _ => none }
def PeriodTrueWrongFalsely : Prop := periodTrueRow.holds Try.pinned (OpenSpec.ofChange periodTrueWrong)

/-- 'agoniclaw08.PeriodMore': WHATEVER THE INPUT: true; the input reads as it did. -/
def periodMoreSpec : ChangeSpec := { name := "periodMore", fn := fun _ => fun
  | [d1, d2] => { results := [.lit (.bool true)], args := [d1, d2] }
  | _ => none }
def periodMoreRow : OpenClaim := { program := "ytjgebepeghgmcaa", sum := "1ff5a349ab4ca0023f51047f3c7957437ff4eaaf9cfd8094f5e88c20c88e3e74", func := "agonic/agoniclaw08.PeriodMore", spec := "periodMore", unfollowed := true, recurses := true, apart := false }
def PeriodMoreSaid : Prop := periodMoreRow.holds Try.pinned (OpenSpec.ofChange periodMoreSpec)

/-- ITS FALSE NEIGHBOUR: 'it returns false'. Refute it at one input. -/
def periodMoreWrong : ChangeSpec := { name := "periodMore", fn := fun _ => fun
  | [d1, d2] => { results := [.lit (.bool false)], args := [d1, d2] }
  | _ => none }
def PeriodMoreWrongFalsely : Prop := periodMoreRow.holds Try.pinned (OpenSpec.ofChange periodMoreWrong)

/-- 'agoniclaw08.PeriodScaled': WHATEVER THE INPUT: true; the input reads as it did. -/
def periodScaledSpec : ChangeSpec := { name := "periodScaled", fn := fun _ => fun
  | [d1, d2, d3] => { results := [.lit (.bool true)], args := [d1, d2, d3] }
  | _ => none }
def periodScaledRow : OpenClaim := { program := "ytjgebepeghgmcaa", sum := "1ff5a349ab4ca0023f51047f3c7957437ff4eaaf9cfd8094f5e88c20c88e3e74", func := "agonic/agoniclaw08.PeriodScaled", spec := "periodScaled", unfollowed := true, recurses := true, apart := false }
def PeriodScaledSaid : Prop := periodScaledRow.holds Try.pinned (OpenSpec.ofChange periodScaledSpec)

/-- ITS FALSE NEIGHBOUR: 'it returns false'. Refute it at one input. -/
def periodScaledWrong : ChangeSpec := { name := "periodScaled", fn := fun _ => fun
  | [d1, d2, d3] => { results := [.lit (.bool false)], args := [d1, d2, d3] }
  | _ => none }
def PeriodScaledWrongFalsely : Prop := periodScaledRow.holds Try.pinned (OpenSpec.ofChange periodScaledWrong)

/-- 'agoniclaw08.PeriodSimplest': WHATEVER THE INPUT: true; the input reads as it did. -/
def periodSimplestSpec : ChangeSpec := { name := "periodSimplest", fn := fun _ => fun
  | [d1, d2] => { results := [.lit (.bool true)], args := [d1, d2] }
  | _ => none }
def periodSimplestRow : OpenClaim := { program := "ytjgebepeghgmcaa", sum := "1ff5a349ab4ca0023f51047f3c7957437ff4eaaf9cfd8094f5e88c20c88e3e74", func := "agonic/agoniclaw08.PeriodSimplest", spec := "periodSimplest", unfollowed := true, recurses := true, apart := false }
def PeriodSimplestSaid : Prop := periodSimplestRow.holds Try.pinned (OpenSpec.ofChange periodSimplestSpec)

/-- ITS FALSE NEIGHBOUR: 'it returns false'. Refute it at one input. -/
def periodSimplestWrong : ChangeSpec := { name := "periodSimplest", fn := fun _ => fun
  | [d1, d2] => { results := [.lit (.bool false)], args := [d1, d2] }
  | _ => none }
def PeriodSimplestWrongFalsely : Prop := periodSimplestRow.holds Try.pinned (OpenSpec.ofChange periodSimplestWrong)

/-- 'agoniclaw08.PeriodPaths': WHATEVER THE INPUT: true; the input reads as it did. -/
def periodPathsSpec : ChangeSpec := { name := "periodPaths", fn := fun _ => fun
  | [d1, d2] => { results := [.lit (.bool true)], args := [d1, d2] }
  | _ => none }
def periodPathsRow : OpenClaim := { program := "ytjgebepeghgmcaa", sum := "1ff5a349ab4ca0023f51047f3c7957437ff4eaaf9cfd8094f5e88c20c88e3e74", func := "agonic/agoniclaw08.PeriodPaths", spec := "periodPaths", unfollowed := true, recurses := true, apart := false }
def PeriodPathsSaid : Prop := periodPathsRow.holds Try.pinned (OpenSpec.ofChange periodPathsSpec)

/-- ITS FALSE NEIGHBOUR: 'it returns false'. Refute it at one input. -/
def periodPathsWrong : ChangeSpec := { name := "periodPaths", fn := fun _ => fun
  | [d1, d2] => { results := [.lit (.bool false)], args := [d1, d2] }
  | _ => none }
def PeriodPathsWrongFalsely : Prop := periodPathsRow.holds Try.pinned (OpenSpec.ofChange periodPathsWrong)

/-- 'agoniclaw08.PeriodKnown': WHATEVER THE INPUT: true; the input reads as it did. -/
def periodKnownSpec : ChangeSpec := { name := "periodKnown", fn := fun _ => fun
  | [] => { results := [.lit (.bool true)], args := [] }
  | _ => none }
def periodKnownRow : OpenClaim := { program := "ytjgebepeghgmcaa", sum := "1ff5a349ab4ca0023f51047f3c7957437ff4eaaf9cfd8094f5e88c20c88e3e74", func := "agonic/agoniclaw08.PeriodKnown", spec := "periodKnown", unfollowed := true, recurses := true, apart := false }
def PeriodKnownSaid : Prop := periodKnownRow.holds Try.pinned (OpenSpec.ofChange periodKnownSpec)

/-- ITS FALSE NEIGHBOUR: 'it returns false'. Refute it at one input. -/
def periodKnownWrong : ChangeSpec := { name := "periodKnown", fn := fun _ => fun
  | [] => { results := [.lit (.bool false)], args := [] }
  | _ => none }
def PeriodKnownWrongFalsely : Prop := periodKnownRow.holds Try.pinned (OpenSpec.ofChange periodKnownWrong)

/- THE SECOND FORM. 'bulk': how many values and letters a reading holds, each counted each time it is reached (what is shared counts as often as it is met; a slice's spare places count too). A statement '..UptoSaid' is the law's where the arguments, and the package variables that the reading takes, are together of bulk at most 1048576: NARROWER than '..Said'. Prove '..Said' where nothing that the law and all that it calls make is longer than what came in: it says more and counts as full. Else prove '..UptoSaid'. A law counts once. -/
mutual
def uptoBulk {H : Type} : DataW H → Nat
  | .lit (.string bytes) => bytes.length + 1
  | .lit _ => 1
  | .nil => 1
  | .ptr d => uptoBulk d + 1
  | .slice elems spare => uptoBulkAll elems + uptoBulkAll spare + 1
  | .agg parts => uptoBulkAll parts + 1
  | .iface _ d => uptoBulk d + 1
  | .map entries => uptoBulkEntries entries + 1
  | .held _ => 1
def uptoBulkAll {H : Type} : List (DataW H) → Nat
  | [] => 0
  | d :: r => uptoBulk d + uptoBulkAll r
def uptoBulkEntries {H : Type} : List (Lit × DataW H) → Nat
  | [] => 0
  | x :: r => uptoBulkEntry x + uptoBulkEntries r
def uptoBulkEntry {H : Type} : Lit × DataW H → Nat
  | (.string bytes, d) => bytes.length + uptoBulk d + 1
  | (_, d) => uptoBulk d + 1
 end
def uptoSmall : (H : Type) → List (DataW H) → Bool := fun _ ds => decide (uptoBulkAll ds ≤ 1048576)
def OpenSpec.upto (s : _root_.Go.ChangeSpec) : _root_.Go.OpenSpec := { _root_.Go.OpenSpec.ofChange s with cond := some uptoSmall }

/-- 'agoniclaw08.PeriodCounts', WHERE WHAT IT READS IS OF BULK AT MOST 1048576: true; the input reads as it did. -/
def periodCountsUptoRow : OpenClaim := { program := "ytjgebepeghgmcaa", sum := "1ff5a349ab4ca0023f51047f3c7957437ff4eaaf9cfd8094f5e88c20c88e3e74", func := "agonic/agoniclaw08.PeriodCounts", spec := "periodCounts", unfollowed := true, recurses := true, apart := false, narrowed := true }
def PeriodCountsUptoSaid : Prop := periodCountsUptoRow.holds Try.pinned (OpenSpec.upto periodCountsSpec)

/-- 'agoniclaw08.PeriodFractions', WHERE WHAT IT READS IS OF BULK AT MOST 1048576: true; the input reads as it did. -/
def periodFractionsUptoRow : OpenClaim := { program := "ytjgebepeghgmcaa", sum := "1ff5a349ab4ca0023f51047f3c7957437ff4eaaf9cfd8094f5e88c20c88e3e74", func := "agonic/agoniclaw08.PeriodFractions", spec := "periodFractions", unfollowed := true, recurses := true, apart := false, narrowed := true }
def PeriodFractionsUptoSaid : Prop := periodFractionsUptoRow.holds Try.pinned (OpenSpec.upto periodFractionsSpec)

/-- 'agoniclaw08.PeriodTried', WHERE WHAT IT READS IS OF BULK AT MOST 1048576: true; the input reads as it did. -/
def periodTriedUptoRow : OpenClaim := { program := "ytjgebepeghgmcaa", sum := "1ff5a349ab4ca0023f51047f3c7957437ff4eaaf9cfd8094f5e88c20c88e3e74", func := "agonic/agoniclaw08.PeriodTried", spec := "periodTried", unfollowed := true, recurses := true, apart := false, narrowed := true }
def PeriodTriedUptoSaid : Prop := periodTriedUptoRow.holds Try.pinned (OpenSpec.upto periodTriedSpec)

/-- 'agoniclaw08.PeriodProved', WHERE WHAT IT READS IS OF BULK AT MOST 1048576: true; the input reads as it did. -/
def periodProvedUptoRow : OpenClaim := { program := "ytjgebepeghgmcaa", sum := "1ff5a349ab4ca0023f51047f3c7957437ff4eaaf9cfd8094f5e88c20c88e3e74", func := "agonic/agoniclaw08.PeriodProved", spec := "periodProved", unfollowed := true, recurses := true, apart := false, narrowed := true }
def PeriodProvedUptoSaid : Prop := periodProvedUptoRow.holds Try.pinned (OpenSpec.upto periodProvedSpec)

/-- 'agoniclaw08.PeriodTrue', WHERE WHAT IT READS IS OF BULK AT MOST 1048576: true; the input reads as it did. -/
def periodTrueUptoRow : OpenClaim := { program := "ytjgebepeghgmcaa", sum := "1ff5a349ab4ca0023f51047f3c7957437ff4eaaf9cfd8094f5e88c20c88e3e74", func := "agonic/agoniclaw08.PeriodTrue", spec := "periodTrue", unfollowed := true, recurses := true, apart := false, narrowed := true }
def PeriodTrueUptoSaid : Prop := periodTrueUptoRow.holds Try.pinned (OpenSpec.upto periodTrueSpec)

/-- 'agoniclaw08.PeriodMore', WHERE WHAT IT READS IS OF BULK AT MOST 1048576: true; the input reads as it did. -/
def periodMoreUptoRow : OpenClaim := { program := "ytjgebepeghgmcaa", sum := "1ff5a349ab4ca0023f51047f3c7957437ff4eaaf9cfd8094f5e88c20c88e3e74", func := "agonic/agoniclaw08.PeriodMore", spec := "periodMore", unfollowed := true, recurses := true, apart := false, narrowed := true }
def PeriodMoreUptoSaid : Prop := periodMoreUptoRow.holds Try.pinned (OpenSpec.upto periodMoreSpec)

/-- 'agoniclaw08.PeriodScaled', WHERE WHAT IT READS IS OF BULK AT MOST 1048576: true; the input reads as it did. -/
def periodScaledUptoRow : OpenClaim := { program := "ytjgebepeghgmcaa", sum := "1ff5a349ab4ca0023f51047f3c7957437ff4eaaf9cfd8094f5e88c20c88e3e74", func := "agonic/agoniclaw08.PeriodScaled", spec := "periodScaled", unfollowed := true, recurses := true, apart := false, narrowed := true }
def PeriodScaledUptoSaid : Prop := periodScaledUptoRow.holds Try.pinned (OpenSpec.upto periodScaledSpec)

/-- 'agoniclaw08.PeriodSimplest', WHERE WHAT IT READS IS OF BULK AT MOST 1048576: true; the input reads as it did. -/
def periodSimplestUptoRow : OpenClaim := { program := "ytjgebepeghgmcaa", sum := "1ff5a349ab4ca0023f51047f3c7957437ff4eaaf9cfd8094f5e88c20c88e3e74", func := "agonic/agoniclaw08.PeriodSimplest", spec := "periodSimplest", unfollowed := true, recurses := true, apart := false, narrowed := true }
def PeriodSimplestUptoSaid : Prop := periodSimplestUptoRow.holds Try.pinned (OpenSpec.upto periodSimplestSpec)

/-- 'agoniclaw08.PeriodPaths', WHERE WHAT IT READS IS OF BULK AT MOST 1048576: true; the input reads as it did. -/
def periodPathsUptoRow : OpenClaim := { program := "ytjgebepeghgmcaa", sum := "1ff5a349ab4ca0023f51047f3c7957437ff4eaaf9cfd8094f5e88c20c88e3e74", func := "agonic/agoniclaw08.PeriodPaths", spec := "periodPaths", unfollowed := true, recurses := true, apart := false, narrowed := true }
def PeriodPathsUptoSaid : Prop := periodPathsUptoRow.holds Try.pinned (OpenSpec.upto periodPathsSpec)

/-- 'agoniclaw08.PeriodKnown', WHERE WHAT IT READS IS OF BULK AT MOST 1048576: true; the input reads as it did. -/
def periodKnownUptoRow : OpenClaim := { program := "ytjgebepeghgmcaa", sum := "1ff5a349ab4ca0023f51047f3c7957437ff4eaaf9cfd8094f5e88c20c88e3e74", func := "agonic/agoniclaw08.PeriodKnown", spec := "periodKnown", unfollowed := true, recurses := true, apart := false, narrowed := true }
def PeriodKnownUptoSaid : Prop := periodKnownUptoRow.holds Try.pinned (OpenSpec.upto periodKnownSpec)

end Rows
end Go.Proofs.Ytjgebepeghgmcaa
