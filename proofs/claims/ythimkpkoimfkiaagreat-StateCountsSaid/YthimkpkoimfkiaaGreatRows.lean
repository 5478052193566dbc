/-
  No cell of these rows narrows 'for every input' (looked for: loops, veiled, ifaces, maps, wideKeys, modest, calm, conditions, laid).
  DERIVED. THE GIVEN ROWS OF THIS SEAT. 2 by the template 'for every input the law returns true; each argument reads behind the call as it read before'; 0 by the template 'total and deterministic' (their statements: YthimkpkoimfkiaaGreatTotals.lean).
  GIVEN WITH THE SEED: the statements are not yours to turn. If you find one false, say at which input.
  Laid BY PROGRAM, IN A SANDBOX (cutbox-rows.mjs): the forced cells as the released guide's own fill.sh prints them over the translation 1cf6e0d655ac026c… (all of the seat's roots in one cut). By AI agents, Wed Nov 11 2026. No macro, syntax, notation, axiom, sorry.
-/
import Derived.Test.YthimkpkoimfkiaaGreatChecked
import GoSem.Claim
import GoSem.ClaimJoined
import GoSem.ClaimMapViews
import Derived.JoinedTies
import Derived.KernelRfl
namespace Go.Proofs.YthimkpkoimfkiaaGreat
/- THE CELL 'sum', in the pinned program and in every row, IS THE sha256 OF THE DUMP (.gsa) THAT YthimkpkoimfkiaaGreatProg.lean LOADS. Nothing in Lean hashes anything: it is a label: what it is worth is what the hold of that sum in a sandbox is worth. -/
noncomputable def Tryz.pinned : Pinned := { name := "ythimkpkoimfkiaagreat", sum := "1cf6e0d655ac026cb56087857d786341425e6349b9c4a3d2d8a1dbc0a550163a", checked := Tryz.checked }
namespace Rows
def none {H : Type} : Left H := { results := [], args := [] }

/-- 'booklaw6.StateConflicts': WHATEVER THE INPUT: true; the input reads as it did. -/
def stateConflictsSpec : ChangeSpec := { name := "stateConflicts", fn := fun _ => fun
  | [d1, d2, d3] => { results := [.lit (.bool true)], args := [d1, d2, d3] }
  | _ => none }
def stateConflictsRow : OpenClaim := { program := "ythimkpkoimfkiaagreat", sum := "1cf6e0d655ac026cb56087857d786341425e6349b9c4a3d2d8a1dbc0a550163a", func := "commonbook/booklaw6.StateConflicts", spec := "stateConflicts", unfollowed := true, recurses := true, plainKeys := false, apart := false }
def StateConflictsSaid : Prop := stateConflictsRow.holds Tryz.pinned (OpenSpec.ofChange stateConflictsSpec)

/-- ITS FALSE NEIGHBOUR: 'it returns false'. Refute it at one input. -/
def stateConflictsWrong : ChangeSpec := { name := "stateConflicts", fn := fun _ => fun
  | [d1, d2, d3] => { results := [.lit (.bool false)], args := [d1, d2, d3] }
  | _ => none }
def StateConflictsWrongFalsely : Prop := stateConflictsRow.holds Tryz.pinned (OpenSpec.ofChange stateConflictsWrong)

/-- 'booklaw6.StateCounts': WHATEVER THE INPUT: true; the input reads as it did. -/
def stateCountsSpec : ChangeSpec := { name := "stateCounts", fn := fun _ => fun
  | [d1, d2] => { results := [.lit (.bool true)], args := [d1, d2] }
  | _ => none }
def stateCountsRow : OpenClaim := { program := "ythimkpkoimfkiaagreat", sum := "1cf6e0d655ac026cb56087857d786341425e6349b9c4a3d2d8a1dbc0a550163a", func := "commonbook/booklaw6.StateCounts", spec := "stateCounts", unfollowed := true, recurses := true, plainKeys := false, apart := false }
def StateCountsSaid : Prop := stateCountsRow.holds Tryz.pinned (OpenSpec.ofChange stateCountsSpec)

/-- ITS FALSE NEIGHBOUR: 'it returns false'. Refute it at one input. -/
def stateCountsWrong : ChangeSpec := { name := "stateCounts", fn := fun _ => fun
  | [d1, d2] => { results := [.lit (.bool false)], args := [d1, d2] }
  | _ => none }
def StateCountsWrongFalsely : Prop := stateCountsRow.holds Tryz.pinned (OpenSpec.ofChange stateCountsWrong)

/- THE SECOND FORM. 'bulk': how many values and letters a reading holds, each counted each time it is reached (what is shared counts as often as it is met; a slice's spare places count too). A statement '..UptoSaid' is the law's where the arguments, and the package variables that the reading takes, are together of bulk at most 1048576: NARROWER than '..Said'. Prove '..Said' where nothing that the law and all that it calls make is longer than what came in: it says more and counts as full. Else prove '..UptoSaid'. A law counts once. -/
mutual
def uptoBulk {H : Type} : DataW H → Nat
  | .lit (.string bytes) => bytes.length + 1
  | .lit _ => 1
  | .nil => 1
  | .ptr d => uptoBulk d + 1
  | .slice elems spare => uptoBulkAll elems + uptoBulkAll spare + 1
  | .agg parts => uptoBulkAll parts + 1
  | .iface _ d => uptoBulk d + 1
  | .map entries => uptoBulkEntries entries + 1
  | .held _ => 1
def uptoBulkAll {H : Type} : List (DataW H) → Nat
  | [] => 0
  | d :: r => uptoBulk d + uptoBulkAll r
def uptoBulkEntries {H : Type} : List (Lit × DataW H) → Nat
  | [] => 0
  | x :: r => uptoBulkEntry x + uptoBulkEntries r
def uptoBulkEntry {H : Type} : Lit × DataW H → Nat
  | (.string bytes, d) => bytes.length + uptoBulk d + 1
  | (_, d) => uptoBulk d + 1
 end
def uptoSmall : (H : Type) → List (DataW H) → Bool := fun _ ds => decide (uptoBulkAll ds ≤ 1048576)
def OpenSpec.upto (s : _root_.Go.ChangeSpec) : _root_.Go.OpenSpec := { _root_.Go.OpenSpec.ofChange s with cond := some uptoSmall }

/-- 'booklaw6.StateConflicts', WHERE WHAT IT READS IS OF BULK AT MOST 1048576: true; the input reads as it did. -/
def stateConflictsUptoRow : OpenClaim := { program := "ythimkpkoimfkiaagreat", sum := "1cf6e0d655ac026cb56087857d786341425e6349b9c4a3d2d8a1dbc0a550163a", func := "commonbook/booklaw6.StateConflicts", spec := "stateConflicts", unfollowed := true, recurses := true, plainKeys := false, apart := false, narrowed := true }
def StateConflictsUptoSaid : Prop := stateConflictsUptoRow.holds Tryz.pinned (OpenSpec.upto stateConflictsSpec)

/-- 'booklaw6.StateCounts', WHERE WHAT IT READS IS OF BULK AT MOST 1048576: true; the input reads as it did. -/
def stateCountsUptoRow : OpenClaim := { program := "ythimkpkoimfkiaagreat", sum := "1cf6e0d655ac026cb56087857d786341425e6349b9c4a3d2d8a1dbc0a550163a", func := "commonbook/booklaw6.StateCounts", spec := "stateCounts", unfollowed := true, recurses := true, plainKeys := false, apart := false, narrowed := true }
def StateCountsUptoSaid : Prop := stateCountsUptoRow.holds Tryz.pinned (OpenSpec.upto stateCountsSpec)

end Rows
end Go.Proofs.YthimkpkoimfkiaaGreat
