/-
  No cell of these rows narrows 'for every input' (looked for: loops, veiled, ifaces, maps, wideKeys, modest, calm, conditions, laid).
  DERIVED. THE GIVEN ROWS OF THIS SEAT. 12 by the template 'for every input the law returns true; each argument reads behind the call as it read before'; 0 by the template 'total and deterministic' (their statements: YtlbhnicengolfaaTotals.lean).
  GIVEN WITH THE SEED: the statements are not yours to turn. If you find one false, say at which input.
  Laid BY PROGRAM, IN A SANDBOX (cutbox-rows.mjs): the forced cells as the released guide's own fill.sh prints them over the translation f30ac128ab2707f5… (all of the seat's roots in one cut). By AI agents, Wed Nov 11 2026. No macro, syntax, notation, axiom, sorry.
-/
import Derived.Test.YtlbhnicengolfaaChecked
import GoSem.Claim
import GoSem.ClaimJoined
import GoSem.ClaimMapViews
import Derived.JoinedTies
import Derived.KernelRfl
namespace Go.Proofs.Ytlbhnicengolfaa
/- THE CELL 'sum', in the pinned program and in every row, IS THE sha256 OF THE DUMP (.gsa) THAT YtlbhnicengolfaaProg.lean LOADS. Nothing in Lean hashes anything: it is a label: what it is worth is what the hold of that sum in a sandbox is worth. -/
noncomputable def Try.pinned : Pinned := { name := "ytlbhnicengolfaa", sum := "f30ac128ab2707f55dfe17a72c705e2cfb27681b3ad3083ca35ed36bd8207d43", checked := Try.checked }
namespace Rows
def none {H : Type} : Left H := { results := [], args := [] }

/-- 'agoniclaw03.TotalRoots': WHATEVER THE INPUT: true; the input reads as it did. -/
def totalRootsSpec : ChangeSpec := { name := "totalRoots", fn := fun _ => fun
  | [d1, d2] => { results := [.lit (.bool true)], args := [d1, d2] }
  | _ => none }
def totalRootsRow : OpenClaim := { program := "ytlbhnicengolfaa", sum := "f30ac128ab2707f55dfe17a72c705e2cfb27681b3ad3083ca35ed36bd8207d43", func := "agonic/agoniclaw03.TotalRoots", spec := "totalRoots", unfollowed := true, recurses := true, apart := false }
def TotalRootsSaid : Prop := totalRootsRow.holds Try.pinned (OpenSpec.ofChange totalRootsSpec)

/-- ITS FALSE NEIGHBOUR: 'it returns false'. Refute it at one input. -/
def totalRootsWrong : ChangeSpec := { name := "totalRoots", fn := fun _ => fun
  | [d1, d2] => { results := [.lit (.bool false)], args := [d1, d2] }
  | _ => none }
def TotalRootsWrongFalsely : Prop := totalRootsRow.holds Try.pinned (OpenSpec.ofChange totalRootsWrong)

/-- 'agoniclaw03.TotalEquations': WHATEVER THE INPUT: true; the input reads as it did. -/
def totalEquationsSpec : ChangeSpec := { name := "totalEquations", fn := fun _ => fun
  | [d1, d2] => { results := [.lit (.bool true)], args := [d1, d2] }
  | _ => none }
def totalEquationsRow : OpenClaim := { program := "ytlbhnicengolfaa", sum := "f30ac128ab2707f55dfe17a72c705e2cfb27681b3ad3083ca35ed36bd8207d43", func := "agonic/agoniclaw03.TotalEquations", spec := "totalEquations", unfollowed := true, recurses := true, apart := false }
def TotalEquationsSaid : Prop := totalEquationsRow.holds Try.pinned (OpenSpec.ofChange totalEquationsSpec)

/-- ITS FALSE NEIGHBOUR: 'it returns false'. Refute it at one input. -/
def totalEquationsWrong : ChangeSpec := { name := "totalEquations", fn := fun _ => fun
  | [d1, d2] => { results := [.lit (.bool false)], args := [d1, d2] }
  | _ => none }
def TotalEquationsWrongFalsely : Prop := totalEquationsRow.holds Try.pinned (OpenSpec.ofChange totalEquationsWrong)

/-- 'agoniclaw03.TotalSquares': WHATEVER THE INPUT: true; the input reads as it did. -/
def totalSquaresSpec : ChangeSpec := { name := "totalSquares", fn := fun _ => fun
  | [d1, d2, d3] => { results := [.lit (.bool true)], args := [d1, d2, d3] }
  | _ => none }
def totalSquaresRow : OpenClaim := { program := "ytlbhnicengolfaa", sum := "f30ac128ab2707f55dfe17a72c705e2cfb27681b3ad3083ca35ed36bd8207d43", func := "agonic/agoniclaw03.TotalSquares", spec := "totalSquares", unfollowed := true, recurses := true, apart := false }
def TotalSquaresSaid : Prop := totalSquaresRow.holds Try.pinned (OpenSpec.ofChange totalSquaresSpec)

/-- ITS FALSE NEIGHBOUR: 'it returns false'. Refute it at one input. -/
def totalSquaresWrong : ChangeSpec := { name := "totalSquares", fn := fun _ => fun
  | [d1, d2, d3] => { results := [.lit (.bool false)], args := [d1, d2, d3] }
  | _ => none }
def TotalSquaresWrongFalsely : Prop := totalSquaresRow.holds Try.pinned (OpenSpec.ofChange totalSquaresWrong)

/-- 'agoniclaw03.TotalClashes': WHATEVER THE INPUT: true; the input reads as it did. -/
def totalClashesSpec : ChangeSpec := { name := "totalClashes", fn := fun _ => fun
  | [d] => { results := [.lit (.bool true)], args := [d] }
  | _ => none }
def totalClashesRow : OpenClaim := { program := "ytlbhnicengolfaa", sum := "f30ac128ab2707f55dfe17a72c705e2cfb27681b3ad3083ca35ed36bd8207d43", func := "agonic/agoniclaw03.TotalClashes", spec := "totalClashes", unfollowed := true, recurses := true, apart := false }
def TotalClashesSaid : Prop := totalClashesRow.holds Try.pinned (OpenSpec.ofChange totalClashesSpec)

/-- ITS FALSE NEIGHBOUR: 'it returns false'. Refute it at one input. -/
def totalClashesWrong : ChangeSpec := { name := "totalClashes", fn := fun _ => fun
  | [d] => { results := [.lit (.bool false)], args := [d] }
  | _ => none }
def TotalClashesWrongFalsely : Prop := totalClashesRow.holds Try.pinned (OpenSpec.ofChange totalClashesWrong)

/-- 'agoniclaw03.TotalEither': WHATEVER THE INPUT: true; the input reads as it did. -/
def totalEitherSpec : ChangeSpec := { name := "totalEither", fn := fun _ => fun
  | [d] => { results := [.lit (.bool true)], args := [d] }
  | _ => none }
def totalEitherRow : OpenClaim := { program := "ytlbhnicengolfaa", sum := "f30ac128ab2707f55dfe17a72c705e2cfb27681b3ad3083ca35ed36bd8207d43", func := "agonic/agoniclaw03.TotalEither", spec := "totalEither", unfollowed := true, recurses := true, apart := false }
def TotalEitherSaid : Prop := totalEitherRow.holds Try.pinned (OpenSpec.ofChange totalEitherSpec)

/-- ITS FALSE NEIGHBOUR: 'it returns false'. Refute it at one input. -/
def totalEitherWrong : ChangeSpec := { name := "totalEither", fn := fun _ => fun
  | [d] => { results := [.lit (.bool false)], args := [d] }
  | _ => none }
def TotalEitherWrongFalsely : Prop := totalEitherRow.holds Try.pinned (OpenSpec.ofChange totalEitherWrong)

/-- 'agoniclaw03.TotalTruth': WHATEVER THE INPUT: true; the input reads as it did. -/
def totalTruthSpec : ChangeSpec := { name := "totalTruth", fn := fun _ => fun
  | [d1, d2, d3, d4] => { results := [.lit (.bool true)], args := [d1, d2, d3, d4] }
  | _ => none }
def totalTruthRow : OpenClaim := { program := "ytlbhnicengolfaa", sum := "f30ac128ab2707f55dfe17a72c705e2cfb27681b3ad3083ca35ed36bd8207d43", func := "agonic/agoniclaw03.TotalTruth", spec := "totalTruth", unfollowed := true, recurses := true, apart := false }
def TotalTruthSaid : Prop := totalTruthRow.holds Try.pinned (OpenSpec.ofChange totalTruthSpec)

/-- ITS FALSE NEIGHBOUR: 'it returns false'. Refute it at one input. -/
def totalTruthWrong : ChangeSpec := { name := "totalTruth", fn := fun _ => fun
  | [d1, d2, d3, d4] => { results := [.lit (.bool false)], args := [d1, d2, d3, d4] }
  | _ => none }
def TotalTruthWrongFalsely : Prop := totalTruthRow.holds Try.pinned (OpenSpec.ofChange totalTruthWrong)

/-- 'agoniclaw03.TotalSharp': WHATEVER THE INPUT: true; the input reads as it did. -/
def totalSharpSpec : ChangeSpec := { name := "totalSharp", fn := fun _ => fun
  | [d1, d2, d3, d4] => { results := [.lit (.bool true)], args := [d1, d2, d3, d4] }
  | _ => none }
def totalSharpRow : OpenClaim := { program := "ytlbhnicengolfaa", sum := "f30ac128ab2707f55dfe17a72c705e2cfb27681b3ad3083ca35ed36bd8207d43", func := "agonic/agoniclaw03.TotalSharp", spec := "totalSharp", unfollowed := true, recurses := true, apart := false }
def TotalSharpSaid : Prop := totalSharpRow.holds Try.pinned (OpenSpec.ofChange totalSharpSpec)

/-- ITS FALSE NEIGHBOUR: 'it returns false'. Refute it at one input. -/
def totalSharpWrong : ChangeSpec := { name := "totalSharp", fn := fun _ => fun
  | [d1, d2, d3, d4] => { results := [.lit (.bool false)], args := [d1, d2, d3, d4] }
  | _ => none }
def TotalSharpWrongFalsely : Prop := totalSharpRow.holds Try.pinned (OpenSpec.ofChange totalSharpWrong)

/-- 'agoniclaw03.TotalGroups': WHATEVER THE INPUT: true; the input reads as it did. -/
def totalGroupsSpec : ChangeSpec := { name := "totalGroups", fn := fun _ => fun
  | [d1, d2, d3] => { results := [.lit (.bool true)], args := [d1, d2, d3] }
  | _ => none }
def totalGroupsRow : OpenClaim := { program := "ytlbhnicengolfaa", sum := "f30ac128ab2707f55dfe17a72c705e2cfb27681b3ad3083ca35ed36bd8207d43", func := "agonic/agoniclaw03.TotalGroups", spec := "totalGroups", unfollowed := true, recurses := true, apart := false }
def TotalGroupsSaid : Prop := totalGroupsRow.holds Try.pinned (OpenSpec.ofChange totalGroupsSpec)

/-- ITS FALSE NEIGHBOUR: 'it returns false'. Refute it at one input. -/
def totalGroupsWrong : ChangeSpec := { name := "totalGroups", fn := fun _ => fun
  | [d1, d2, d3] => { results := [.lit (.bool false)], args := [d1, d2, d3] }
  | _ => none }
def TotalGroupsWrongFalsely : Prop := totalGroupsRow.holds Try.pinned (OpenSpec.ofChange totalGroupsWrong)

/-- 'agoniclaw03.TotalSuspects': WHATEVER THE INPUT: true; the input reads as it did. -/
def totalSuspectsSpec : ChangeSpec := { name := "totalSuspects", fn := fun _ => fun
  | [d1, d2, d3, d4, d5] => { results := [.lit (.bool true)], args := [d1, d2, d3, d4, d5] }
  | _ => none }
def totalSuspectsRow : OpenClaim := { program := "ytlbhnicengolfaa", sum := "f30ac128ab2707f55dfe17a72c705e2cfb27681b3ad3083ca35ed36bd8207d43", func := "agonic/agoniclaw03.TotalSuspects", spec := "totalSuspects", unfollowed := true, recurses := true, apart := false }
def TotalSuspectsSaid : Prop := totalSuspectsRow.holds Try.pinned (OpenSpec.ofChange totalSuspectsSpec)

/-- ITS FALSE NEIGHBOUR: 'it returns false'. Refute it at one input. -/
def totalSuspectsWrong : ChangeSpec := { name := "totalSuspects", fn := fun _ => fun
  | [d1, d2, d3, d4, d5] => { results := [.lit (.bool false)], args := [d1, d2, d3, d4, d5] }
  | _ => none }
def TotalSuspectsWrongFalsely : Prop := totalSuspectsRow.holds Try.pinned (OpenSpec.ofChange totalSuspectsWrong)

/-- 'agoniclaw03.TotalTurned': WHATEVER THE INPUT: true; the input reads as it did. -/
def totalTurnedSpec : ChangeSpec := { name := "totalTurned", fn := fun _ => fun
  | [d1, d2] => { results := [.lit (.bool true)], args := [d1, d2] }
  | _ => none }
def totalTurnedRow : OpenClaim := { program := "ytlbhnicengolfaa", sum := "f30ac128ab2707f55dfe17a72c705e2cfb27681b3ad3083ca35ed36bd8207d43", func := "agonic/agoniclaw03.TotalTurned", spec := "totalTurned", unfollowed := true, recurses := true, apart := false }
def TotalTurnedSaid : Prop := totalTurnedRow.holds Try.pinned (OpenSpec.ofChange totalTurnedSpec)

/-- ITS FALSE NEIGHBOUR: 'it returns false'. Refute it at one input. -/
def totalTurnedWrong : ChangeSpec := { name := "totalTurned", fn := fun _ => fun
  | [d1, d2] => { results := [.lit (.bool false)], args := [d1, d2] }
  | _ => none }
def TotalTurnedWrongFalsely : Prop := totalTurnedRow.holds Try.pinned (OpenSpec.ofChange totalTurnedWrong)

/-- 'agoniclaw03.TotalRoot': WHATEVER THE INPUT: true; the input reads as it did. -/
def totalRootSpec : ChangeSpec := { name := "totalRoot", fn := fun _ => fun
  | [d] => { results := [.lit (.bool true)], args := [d] }
  | _ => none }
def totalRootRow : OpenClaim := { program := "ytlbhnicengolfaa", sum := "f30ac128ab2707f55dfe17a72c705e2cfb27681b3ad3083ca35ed36bd8207d43", func := "agonic/agoniclaw03.TotalRoot", spec := "totalRoot", unfollowed := true, recurses := true, apart := false }
def TotalRootSaid : Prop := totalRootRow.holds Try.pinned (OpenSpec.ofChange totalRootSpec)

/-- ITS FALSE NEIGHBOUR: 'it returns false'. Refute it at one input. -/
def totalRootWrong : ChangeSpec := { name := "totalRoot", fn := fun _ => fun
  | [d] => { results := [.lit (.bool false)], args := [d] }
  | _ => none }
def TotalRootWrongFalsely : Prop := totalRootRow.holds Try.pinned (OpenSpec.ofChange totalRootWrong)

/-- 'agoniclaw03.TotalKnown': WHATEVER THE INPUT: true; the input reads as it did. -/
def totalKnownSpec : ChangeSpec := { name := "totalKnown", fn := fun _ => fun
  | [] => { results := [.lit (.bool true)], args := [] }
  | _ => none }
def totalKnownRow : OpenClaim := { program := "ytlbhnicengolfaa", sum := "f30ac128ab2707f55dfe17a72c705e2cfb27681b3ad3083ca35ed36bd8207d43", func := "agonic/agoniclaw03.TotalKnown", spec := "totalKnown", unfollowed := true, recurses := true, apart := false }
def TotalKnownSaid : Prop := totalKnownRow.holds Try.pinned (OpenSpec.ofChange totalKnownSpec)

/-- ITS FALSE NEIGHBOUR: 'it returns false'. Refute it at one input. -/
def totalKnownWrong : ChangeSpec := { name := "totalKnown", fn := fun _ => fun
  | [] => { results := [.lit (.bool false)], args := [] }
  | _ => none }
def TotalKnownWrongFalsely : Prop := totalKnownRow.holds Try.pinned (OpenSpec.ofChange totalKnownWrong)

/- THE SECOND FORM. 'bulk': how many values and letters a reading holds, each counted each time it is reached (what is shared counts as often as it is met; a slice's spare places count too). A statement '..UptoSaid' is the law's where the arguments, and the package variables that the reading takes, are together of bulk at most 1048576: NARROWER than '..Said'. Prove '..Said' where nothing that the law and all that it calls make is longer than what came in: it says more and counts as full. Else prove '..UptoSaid'. A law counts once. -/
mutual
def uptoBulk {H : Type} : DataW H → Nat
  | .lit (.string bytes) => bytes.length + 1
  | .lit _ => 1
  | .nil => 1
  | .ptr d => uptoBulk d + 1
  | .slice elems spare => uptoBulkAll elems + uptoBulkAll spare + 1
  | .agg parts => uptoBulkAll parts + 1
  | .iface _ d => uptoBulk d + 1
  | .map entries => uptoBulkEntries entries + 1
  | .held _ => 1
def uptoBulkAll {H : Type} : List (DataW H) → Nat
  | [] => 0
  | d :: r => uptoBulk d + uptoBulkAll r
def uptoBulkEntries {H : Type} : List (Lit × DataW H) → Nat
  | [] => 0
  | x :: r => uptoBulkEntry x + uptoBulkEntries r
def uptoBulkEntry {H : Type} : Lit × DataW H → Nat
  | (.string bytes, d) => bytes.length + uptoBulk d + 1
  | (_, d) => uptoBulk d + 1
 end
def uptoSmall : (H : Type) → List (DataW H) → Bool := fun _ ds => decide (uptoBulkAll ds ≤ 1048576)
def OpenSpec.upto (s : _root_.Go.ChangeSpec) : _root_.Go.OpenSpec := { _root_.Go.OpenSpec.ofChange s with cond := some uptoSmall }

/-- 'agoniclaw03.TotalRoots', WHERE WHAT IT READS IS OF BULK AT MOST 1048576: true; the input reads as it did. -/
def totalRootsUptoRow : OpenClaim := { program := "ytlbhnicengolfaa", sum := "f30ac128ab2707f55dfe17a72c705e2cfb27681b3ad3083ca35ed36bd8207d43", func := "agonic/agoniclaw03.TotalRoots", spec := "totalRoots", unfollowed := true, recurses := true, apart := false, narrowed := true }
def TotalRootsUptoSaid : Prop := totalRootsUptoRow.holds Try.pinned (OpenSpec.upto totalRootsSpec)

/-- 'agoniclaw03.TotalEquations', WHERE WHAT IT READS IS OF BULK AT MOST 1048576: true; the input reads as it did. -/
def totalEquationsUptoRow : OpenClaim := { program := "ytlbhnicengolfaa", sum := "f30ac128ab2707f55dfe17a72c705e2cfb27681b3ad3083ca35ed36bd8207d43", func := "agonic/agoniclaw03.TotalEquations", spec := "totalEquations", unfollowed := true, recurses := true, apart := false, narrowed := true }
def TotalEquationsUptoSaid : Prop := totalEquationsUptoRow.holds Try.pinned (OpenSpec.upto totalEquationsSpec)

/-- 'agoniclaw03.TotalSquares', WHERE WHAT IT READS IS OF BULK AT MOST 1048576: true; the input reads as it did. -/
def totalSquaresUptoRow : OpenClaim := { program := "ytlbhnicengolfaa", sum := "f30ac128ab2707f55dfe17a72c705e2cfb27681b3ad3083ca35ed36bd8207d43", func := "agonic/agoniclaw03.TotalSquares", spec := "totalSquares", unfollowed := true, recurses := true, apart := false, narrowed := true }
def TotalSquaresUptoSaid : Prop := totalSquaresUptoRow.holds Try.pinned (OpenSpec.upto totalSquaresSpec)

/-- 'agoniclaw03.TotalClashes', WHERE WHAT IT READS IS OF BULK AT MOST 1048576: true; the input reads as it did. -/
def totalClashesUptoRow : OpenClaim := { program := "ytlbhnicengolfaa", sum := "f30ac128ab2707f55dfe17a72c705e2cfb27681b3ad3083ca35ed36bd8207d43", func := "agonic/agoniclaw03.TotalClashes", spec := "totalClashes", unfollowed := true, recurses := true, apart := false, narrowed := true }
def TotalClashesUptoSaid : Prop := totalClashesUptoRow.holds Try.pinned (OpenSpec.upto totalClashesSpec)

/-- 'agoniclaw03.TotalEither', WHERE WHAT IT READS IS OF BULK AT MOST 1048576: true; the input reads as it did. -/
def totalEitherUptoRow : OpenClaim := { program := "ytlbhnicengolfaa", sum := "f30ac128ab2707f55dfe17a72c705e2cfb27681b3ad3083ca35ed36bd8207d43", func := "agonic/agoniclaw03.TotalEither", spec := "totalEither", unfollowed := true, recurses := true, apart := false, narrowed := true }
def TotalEitherUptoSaid : Prop := totalEitherUptoRow.holds Try.pinned (OpenSpec.upto totalEitherSpec)

/-- 'agoniclaw03.TotalTruth', WHERE WHAT IT READS IS OF BULK AT MOST 1048576: true; the input reads as it did. -/
def totalTruthUptoRow : OpenClaim := { program := "ytlbhnicengolfaa", sum := "f30ac128ab2707f55dfe17a72c705e2cfb27681b3ad3083ca35ed36bd8207d43", func := "agonic/agoniclaw03.TotalTruth", spec := "totalTruth", unfollowed := true, recurses := true, apart := false, narrowed := true }
def TotalTruthUptoSaid : Prop := totalTruthUptoRow.holds Try.pinned (OpenSpec.upto totalTruthSpec)

/-- 'agoniclaw03.TotalSharp', WHERE WHAT IT READS IS OF BULK AT MOST 1048576: true; the input reads as it did. -/
def totalSharpUptoRow : OpenClaim := { program := "ytlbhnicengolfaa", sum := "f30ac128ab2707f55dfe17a72c705e2cfb27681b3ad3083ca35ed36bd8207d43", func := "agonic/agoniclaw03.TotalSharp", spec := "totalSharp", unfollowed := true, recurses := true, apart := false, narrowed := true }
def TotalSharpUptoSaid : Prop := totalSharpUptoRow.holds Try.pinned (OpenSpec.upto totalSharpSpec)

/-- 'agoniclaw03.TotalGroups', WHERE WHAT IT READS IS OF BULK AT MOST 1048576: true; the input reads as it did. -/
def totalGroupsUptoRow : OpenClaim := { program := "ytlbhnicengolfaa", sum := "f30ac128ab2707f55dfe17a72c705e2cfb27681b3ad3083ca35ed36bd8207d43", func := "agonic/agoniclaw03.TotalGroups", spec := "totalGroups", unfollowed := true, recurses := true, apart := false, narrowed := true }
def TotalGroupsUptoSaid : Prop := totalGroupsUptoRow.holds Try.pinned (OpenSpec.upto totalGroupsSpec)

/-- 'agoniclaw03.TotalSuspects', WHERE WHAT IT READS IS OF BULK AT MOST 1048576: true; the input reads as it did. -/
def totalSuspectsUptoRow : OpenClaim := { program := "ytlbhnicengolfaa", sum := "f30ac128ab2707f55dfe17a72c705e2cfb27681b3ad3083ca35ed36bd8207d43", func := "agonic/agoniclaw03.TotalSuspects", spec := "totalSuspects", unfollowed := true, recurses := true, apart := false, narrowed := true }
def TotalSuspectsUptoSaid : Prop := totalSuspectsUptoRow.holds Try.pinned (OpenSpec.upto totalSuspectsSpec)

/-- 'agoniclaw03.TotalTurned', WHERE WHAT IT READS IS OF BULK AT MOST 1048576: true; the input reads as it did. -/
def totalTurnedUptoRow : OpenClaim := { program := "ytlbhnicengolfaa", sum := "f30ac128ab2707f55dfe17a72c705e2cfb27681b3ad3083ca35ed36bd8207d43", func := "agonic/agoniclaw03.TotalTurned", spec := "totalTurned", unfollowed := true, recurses := true, apart := false, narrowed := true }
def TotalTurnedUptoSaid : Prop := totalTurnedUptoRow.holds Try.pinned (OpenSpec.upto totalTurnedSpec)

/-- 'agoniclaw03.TotalRoot', WHERE WHAT IT READS IS OF BULK AT MOST 1048576: true; the input reads as it did. -/
def totalRootUptoRow : OpenClaim := { program := "ytlbhnicengolfaa", sum := "f30ac128ab2707f55dfe17a72c705e2cfb27681b3ad3083ca35ed36bd8207d43", func := "agonic/agoniclaw03.TotalRoot", spec := "totalRoot", unfollowed := true, recurses := true, apart := false, narrowed := true }
def TotalRootUptoSaid : Prop := totalRootUptoRow.holds Try.pinned (OpenSpec.upto totalRootSpec)

/-- 'agoniclaw03.TotalKnown', WHERE WHAT IT READS IS OF BULK AT MOST 1048576: true; the input reads as it did. -/
def totalKnownUptoRow : OpenClaim := { program := "ytlbhnicengolfaa", sum := "f30ac128ab2707f55dfe17a72c705e2cfb27681b3ad3083ca35ed36bd8207d43", func := "agonic/agoniclaw03.TotalKnown", spec := "totalKnown", unfollowed := true, recurses := true, apart := false, narrowed := true }
def TotalKnownUptoSaid : Prop := totalKnownUptoRow.holds Try.pinned (OpenSpec.upto totalKnownSpec)

end Rows
end Go.Proofs.Ytlbhnicengolfaa
