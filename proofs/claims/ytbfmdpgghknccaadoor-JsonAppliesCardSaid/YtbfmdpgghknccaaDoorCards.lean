/-
  DERIVED. GIVEN WITH THE SEED: THE CARDS: each row of YtbfmdpgghknccaaDoorRows.lean that lists a variable, with what it lists TIED to the program's text (the seventh form; the later family's looks); each row that meets fmt, with fmt's text TOLD by the authors' own Lean function (tested against real Go, not proved from fmt's source: count such statements apart). THE CARD IS WHAT COUNTS. Prove the row's statement (the work); the ties are given (YtbfmdpgghknccaaDoorTie.lean); close each card by the builder's one call (the guide's Derived/Test/ToyasCard.lean, 'card_holds'). Laid BY PROGRAM, IN A SANDBOX (cutbox-door.mjs). By AI agents, Wed Nov 11 2026. No macro, syntax, notation, axiom, sorry.
-/
import Derived.Test.YtbfmdpgghknccaaDoorRows
import GoSem.ClaimSeven
namespace Go.Proofs.YtbfmdpgghknccaaDoor
namespace Rows

/-- THE TIED CARD OF 'booklaw3.JsonApplies'. -/
def jsonAppliesCard : Claim7 := { stood := { row := jsonAppliesRow, standIns := [], harness := (true, "e5805f163e77e0303182626f465401e4efbd759d825c8902713b1df5b71aecd5"), looks := true }, kinds := [], alts := [], laidByText := true, laidKinds := [.handle], laidTests := true, laidLooks := .later }
def JsonAppliesCardSaid : Prop := Claim7.holds Tryd.pinned (.plain (OpenSpec.ofChange jsonAppliesSpec)) jsonAppliesCard

/-- THE TIED CARD OF 'booklaw3.DiskPlays'. -/
def diskPlaysCard : Claim7 := { stood := { row := diskPlaysRow, standIns := [], harness := (true, "e5805f163e77e0303182626f465401e4efbd759d825c8902713b1df5b71aecd5"), looks := true }, kinds := [], alts := [], laidByText := true, laidKinds := [.data, .handle, .pinned], laidTests := true, laidLooks := .later }
def DiskPlaysCardSaid : Prop := Claim7.holds Tryd.pinned (.plain (OpenSpec.ofChange diskPlaysSpec)) diskPlaysCard

/-- THE SECOND FORM's CARD OF 'booklaw3.JsonApplies'. -/
def jsonAppliesUptoCard : Claim7 := { stood := { row := jsonAppliesUptoRow, standIns := [], harness := (true, "e5805f163e77e0303182626f465401e4efbd759d825c8902713b1df5b71aecd5"), looks := true }, kinds := [], alts := [], laidByText := true, laidKinds := [.handle], laidTests := true, laidLooks := .later }
def JsonAppliesUptoCardSaid : Prop := Claim7.holds Tryd.pinned (.plain (OpenSpec.upto jsonAppliesSpec)) jsonAppliesUptoCard

/-- THE SECOND FORM's CARD OF 'booklaw3.DiskPlays'. -/
def diskPlaysUptoCard : Claim7 := { stood := { row := diskPlaysUptoRow, standIns := [], harness := (true, "e5805f163e77e0303182626f465401e4efbd759d825c8902713b1df5b71aecd5"), looks := true }, kinds := [], alts := [], laidByText := true, laidKinds := [.data, .handle, .pinned], laidTests := true, laidLooks := .later }
def DiskPlaysUptoCardSaid : Prop := Claim7.holds Tryd.pinned (.plain (OpenSpec.upto diskPlaysSpec)) diskPlaysUptoCard
end Rows
end Go.Proofs.YtbfmdpgghknccaaDoor
