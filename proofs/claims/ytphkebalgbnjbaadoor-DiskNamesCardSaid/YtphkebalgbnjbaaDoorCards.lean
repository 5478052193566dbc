/-
  DERIVED. GIVEN WITH THE SEED: THE CARDS: each row of YtphkebalgbnjbaaDoorRows.lean that lists a variable, with what it lists TIED to the program's text (the seventh form; the later family's looks); each row that meets fmt, with fmt's text TOLD by the authors' own Lean function (tested against real Go, not proved from fmt's source: count such statements apart). THE CARD IS WHAT COUNTS. Prove the row's statement (the work); the ties are given (YtphkebalgbnjbaaDoorTie.lean); close each card by the builder's one call (the guide's Derived/Test/ToyasCard.lean, 'card_holds'). Laid BY PROGRAM, IN A SANDBOX (cutbox-door.mjs). By AI agents, Wed Nov 11 2026. No macro, syntax, notation, axiom, sorry.
-/
import Derived.Test.YtphkebalgbnjbaaDoorRows
import GoSem.ClaimSeven
namespace Go.Proofs.YtphkebalgbnjbaaDoor
namespace Rows

/-- THE TIED CARD OF 'booklaw3.BloomMakes'. -/
def bloomMakesCard : Claim7 := { stood := { row := bloomMakesRow, standIns := [], harness := (true, "a37c4d3f1bf8e5b6ef77d3f1ee7e4462d15fffcefdfa96ff4bc6df7504805932"), looks := true }, kinds := [], alts := [], laidByText := true, laidKinds := [.handle], laidTests := true, laidLooks := .later }
def BloomMakesCardSaid : Prop := Claim7.holds Tryd.pinned (.plain (OpenSpec.ofChange bloomMakesSpec)) bloomMakesCard

/-- THE TIED CARD OF 'booklaw3.DiskKeeps'. -/
def diskKeepsCard : Claim7 := { stood := { row := diskKeepsRow, standIns := [], harness := (true, "a37c4d3f1bf8e5b6ef77d3f1ee7e4462d15fffcefdfa96ff4bc6df7504805932"), looks := true }, kinds := [], alts := [], laidByText := true, laidKinds := [.data, .pinned], laidTests := true, laidLooks := .later }
def DiskKeepsCardSaid : Prop := Claim7.holds Tryd.pinned (.plain (OpenSpec.ofChange diskKeepsSpec)) diskKeepsCard

/-- THE TIED CARD OF 'booklaw6.DiskNames'. -/
def diskNamesCard : Claim7 := { stood := { row := diskNamesRow, standIns := [], harness := (true, "a37c4d3f1bf8e5b6ef77d3f1ee7e4462d15fffcefdfa96ff4bc6df7504805932"), looks := true }, kinds := [], alts := [], laidByText := true, laidKinds := [.data, .pinned], laidTests := true, laidLooks := .later }
def DiskNamesCardSaid : Prop := Claim7.holds Tryd.pinned (.plain (OpenSpec.ofChange diskNamesSpec)) diskNamesCard

/-- THE TIED CARD OF 'booklaw3.JsonApplies'. -/
def jsonAppliesCard : Claim7 := { stood := { row := jsonAppliesRow, standIns := [], harness := (true, "a37c4d3f1bf8e5b6ef77d3f1ee7e4462d15fffcefdfa96ff4bc6df7504805932"), looks := true }, kinds := [], alts := [], laidByText := true, laidKinds := [.handle], laidTests := true, laidLooks := .later }
def JsonAppliesCardSaid : Prop := Claim7.holds Tryd.pinned (.plain (OpenSpec.ofChange jsonAppliesSpec)) jsonAppliesCard

/-- THE TIED CARD OF 'booklaw3.JsonChecks'. -/
def jsonChecksCard : Claim7 := { stood := { row := jsonChecksRow, standIns := [], harness := (true, "a37c4d3f1bf8e5b6ef77d3f1ee7e4462d15fffcefdfa96ff4bc6df7504805932"), looks := true }, kinds := [], alts := [], laidByText := true, laidKinds := [.data, .data, .data, .handle], laidTests := true, laidLooks := .later }
def JsonChecksCardSaid : Prop := Claim7.holds Tryd.pinned (.plain (OpenSpec.ofChange jsonChecksSpec)) jsonChecksCard

/-- THE SECOND FORM's CARD OF 'booklaw3.BloomMakes'. -/
def bloomMakesUptoCard : Claim7 := { stood := { row := bloomMakesUptoRow, standIns := [], harness := (true, "a37c4d3f1bf8e5b6ef77d3f1ee7e4462d15fffcefdfa96ff4bc6df7504805932"), looks := true }, kinds := [], alts := [], laidByText := true, laidKinds := [.handle], laidTests := true, laidLooks := .later }
def BloomMakesUptoCardSaid : Prop := Claim7.holds Tryd.pinned (.plain (OpenSpec.upto bloomMakesSpec)) bloomMakesUptoCard

/-- THE SECOND FORM's CARD OF 'booklaw3.DiskKeeps'. -/
def diskKeepsUptoCard : Claim7 := { stood := { row := diskKeepsUptoRow, standIns := [], harness := (true, "a37c4d3f1bf8e5b6ef77d3f1ee7e4462d15fffcefdfa96ff4bc6df7504805932"), looks := true }, kinds := [], alts := [], laidByText := true, laidKinds := [.data, .pinned], laidTests := true, laidLooks := .later }
def DiskKeepsUptoCardSaid : Prop := Claim7.holds Tryd.pinned (.plain (OpenSpec.upto diskKeepsSpec)) diskKeepsUptoCard

/-- THE SECOND FORM's CARD OF 'booklaw6.DiskNames'. -/
def diskNamesUptoCard : Claim7 := { stood := { row := diskNamesUptoRow, standIns := [], harness := (true, "a37c4d3f1bf8e5b6ef77d3f1ee7e4462d15fffcefdfa96ff4bc6df7504805932"), looks := true }, kinds := [], alts := [], laidByText := true, laidKinds := [.data, .pinned], laidTests := true, laidLooks := .later }
def DiskNamesUptoCardSaid : Prop := Claim7.holds Tryd.pinned (.plain (OpenSpec.upto diskNamesSpec)) diskNamesUptoCard

/-- THE SECOND FORM's CARD OF 'booklaw3.JsonApplies'. -/
def jsonAppliesUptoCard : Claim7 := { stood := { row := jsonAppliesUptoRow, standIns := [], harness := (true, "a37c4d3f1bf8e5b6ef77d3f1ee7e4462d15fffcefdfa96ff4bc6df7504805932"), looks := true }, kinds := [], alts := [], laidByText := true, laidKinds := [.handle], laidTests := true, laidLooks := .later }
def JsonAppliesUptoCardSaid : Prop := Claim7.holds Tryd.pinned (.plain (OpenSpec.upto jsonAppliesSpec)) jsonAppliesUptoCard

/-- THE SECOND FORM's CARD OF 'booklaw3.JsonChecks'. -/
def jsonChecksUptoCard : Claim7 := { stood := { row := jsonChecksUptoRow, standIns := [], harness := (true, "a37c4d3f1bf8e5b6ef77d3f1ee7e4462d15fffcefdfa96ff4bc6df7504805932"), looks := true }, kinds := [], alts := [], laidByText := true, laidKinds := [.data, .data, .data, .handle], laidTests := true, laidLooks := .later }
def JsonChecksUptoCardSaid : Prop := Claim7.holds Tryd.pinned (.plain (OpenSpec.upto jsonChecksSpec)) jsonChecksUptoCard
end Rows
end Go.Proofs.YtphkebalgbnjbaaDoor
