/-
  DERIVED. GIVEN WITH THE SEED: THE CARDS: each row of YtljemaapicaioaaDoorRows.lean that lists a variable, with what it lists TIED to the program's text (the seventh form; the later family's looks); each row that meets fmt, with fmt's text TOLD by the authors' own Lean function (tested against real Go, not proved from fmt's source: count such statements apart). THE CARD IS WHAT COUNTS. Prove the row's statement (the work); the ties are given (YtljemaapicaioaaDoorTie.lean); close each card by the builder's one call (the guide's Derived/Test/ToyasCard.lean, 'card_holds'). Laid BY PROGRAM, IN A SANDBOX (cutbox-door.mjs). By AI agents, Wed Nov 11 2026. No macro, syntax, notation, axiom, sorry.
-/
import Derived.Test.YtljemaapicaioaaDoorRows
import GoSem.ClaimSeven
namespace Go.Proofs.YtljemaapicaioaaDoor
namespace Rows

/-- THE TIED CARD OF 'booklaw3.BloomMakes'. -/
def bloomMakesCard : Claim7 := { stood := { row := bloomMakesRow, standIns := [], harness := (true, "47ec055d8afb69fdc39ec9b2b84190fdd0e698c6825b31c45f906ead5c395958"), looks := true }, kinds := [], alts := [], laidByText := true, laidKinds := [.handle], laidTests := true, laidLooks := .later }
def BloomMakesCardSaid : Prop := Claim7.holds Tryd.pinned (.plain (OpenSpec.ofChange bloomMakesSpec)) bloomMakesCard

/-- THE TIED CARD OF 'booklaw3.JsonPaths'. -/
def jsonPathsCard : Claim7 := { stood := { row := jsonPathsRow, standIns := [], harness := (true, "47ec055d8afb69fdc39ec9b2b84190fdd0e698c6825b31c45f906ead5c395958"), looks := true }, kinds := [], alts := [], laidByText := true, laidKinds := [.handle], laidTests := true, laidLooks := .later }
def JsonPathsCardSaid : Prop := Claim7.holds Tryd.pinned (.plain (OpenSpec.ofChange jsonPathsSpec)) jsonPathsCard

/-- THE TIED CARD OF 'booklaw3.JsonGets'. -/
def jsonGetsCard : Claim7 := { stood := { row := jsonGetsRow, standIns := [], harness := (true, "47ec055d8afb69fdc39ec9b2b84190fdd0e698c6825b31c45f906ead5c395958"), looks := true }, kinds := [], alts := [], laidByText := true, laidKinds := [.handle], laidTests := true, laidLooks := .later }
def JsonGetsCardSaid : Prop := Claim7.holds Tryd.pinned (.plain (OpenSpec.ofChange jsonGetsSpec)) jsonGetsCard

/-- THE TIED CARD OF 'booklaw3.DiskKeeps'. -/
def diskKeepsCard : Claim7 := { stood := { row := diskKeepsRow, standIns := [], harness := (true, "47ec055d8afb69fdc39ec9b2b84190fdd0e698c6825b31c45f906ead5c395958"), looks := true }, kinds := [], alts := [], laidByText := true, laidKinds := [.data, .pinned], laidTests := true, laidLooks := .later }
def DiskKeepsCardSaid : Prop := Claim7.holds Tryd.pinned (.plain (OpenSpec.ofChange diskKeepsSpec)) diskKeepsCard

/-- THE TIED CARD OF 'booklaw6.DiskNames'. -/
def diskNamesCard : Claim7 := { stood := { row := diskNamesRow, standIns := [], harness := (true, "47ec055d8afb69fdc39ec9b2b84190fdd0e698c6825b31c45f906ead5c395958"), looks := true }, kinds := [], alts := [], laidByText := true, laidKinds := [.data, .pinned], laidTests := true, laidLooks := .later }
def DiskNamesCardSaid : Prop := Claim7.holds Tryd.pinned (.plain (OpenSpec.ofChange diskNamesSpec)) diskNamesCard

/-- THE TIED CARD OF 'booklaw3.JsonApplies'. -/
def jsonAppliesCard : Claim7 := { stood := { row := jsonAppliesRow, standIns := [], harness := (true, "47ec055d8afb69fdc39ec9b2b84190fdd0e698c6825b31c45f906ead5c395958"), looks := true }, kinds := [], alts := [], laidByText := true, laidKinds := [.handle], laidTests := true, laidLooks := .later }
def JsonAppliesCardSaid : Prop := Claim7.holds Tryd.pinned (.plain (OpenSpec.ofChange jsonAppliesSpec)) jsonAppliesCard

/-- THE TIED CARD OF 'booklaw6.IdRow'. -/
def idRowCard : Claim7 := { stood := { row := idRowRow, standIns := [], harness := (true, "47ec055d8afb69fdc39ec9b2b84190fdd0e698c6825b31c45f906ead5c395958"), looks := true }, kinds := [], alts := [], laidByText := true, laidKinds := [.data, .data, .data, .data, .sentinel, .sentinel, .pinned], laidTests := true, laidLooks := .later }
def IdRowCardSaid : Prop := Claim7.holds Tryd.pinned (.plain (OpenSpec.ofChange idRowSpec)) idRowCard

/-- THE TIED CARD OF 'booklaw3.JsonChecks'. -/
def jsonChecksCard : Claim7 := { stood := { row := jsonChecksRow, standIns := [], harness := (true, "47ec055d8afb69fdc39ec9b2b84190fdd0e698c6825b31c45f906ead5c395958"), looks := true }, kinds := [], alts := [], laidByText := true, laidKinds := [.data, .data, .data, .handle], laidTests := true, laidLooks := .later }
def JsonChecksCardSaid : Prop := Claim7.holds Tryd.pinned (.plain (OpenSpec.ofChange jsonChecksSpec)) jsonChecksCard

/-- THE SECOND FORM's CARD OF 'booklaw3.BloomMakes'. -/
def bloomMakesUptoCard : Claim7 := { stood := { row := bloomMakesUptoRow, standIns := [], harness := (true, "47ec055d8afb69fdc39ec9b2b84190fdd0e698c6825b31c45f906ead5c395958"), looks := true }, kinds := [], alts := [], laidByText := true, laidKinds := [.handle], laidTests := true, laidLooks := .later }
def BloomMakesUptoCardSaid : Prop := Claim7.holds Tryd.pinned (.plain (OpenSpec.upto bloomMakesSpec)) bloomMakesUptoCard

/-- THE SECOND FORM's CARD OF 'booklaw3.JsonPaths'. -/
def jsonPathsUptoCard : Claim7 := { stood := { row := jsonPathsUptoRow, standIns := [], harness := (true, "47ec055d8afb69fdc39ec9b2b84190fdd0e698c6825b31c45f906ead5c395958"), looks := true }, kinds := [], alts := [], laidByText := true, laidKinds := [.handle], laidTests := true, laidLooks := .later }
def JsonPathsUptoCardSaid : Prop := Claim7.holds Tryd.pinned (.plain (OpenSpec.upto jsonPathsSpec)) jsonPathsUptoCard

/-- THE SECOND FORM's CARD OF 'booklaw3.JsonGets'. -/
def jsonGetsUptoCard : Claim7 := { stood := { row := jsonGetsUptoRow, standIns := [], harness := (true, "47ec055d8afb69fdc39ec9b2b84190fdd0e698c6825b31c45f906ead5c395958"), looks := true }, kinds := [], alts := [], laidByText := true, laidKinds := [.handle], laidTests := true, laidLooks := .later }
def JsonGetsUptoCardSaid : Prop := Claim7.holds Tryd.pinned (.plain (OpenSpec.upto jsonGetsSpec)) jsonGetsUptoCard

/-- THE SECOND FORM's CARD OF 'booklaw3.DiskKeeps'. -/
def diskKeepsUptoCard : Claim7 := { stood := { row := diskKeepsUptoRow, standIns := [], harness := (true, "47ec055d8afb69fdc39ec9b2b84190fdd0e698c6825b31c45f906ead5c395958"), looks := true }, kinds := [], alts := [], laidByText := true, laidKinds := [.data, .pinned], laidTests := true, laidLooks := .later }
def DiskKeepsUptoCardSaid : Prop := Claim7.holds Tryd.pinned (.plain (OpenSpec.upto diskKeepsSpec)) diskKeepsUptoCard

/-- THE SECOND FORM's CARD OF 'booklaw6.DiskNames'. -/
def diskNamesUptoCard : Claim7 := { stood := { row := diskNamesUptoRow, standIns := [], harness := (true, "47ec055d8afb69fdc39ec9b2b84190fdd0e698c6825b31c45f906ead5c395958"), looks := true }, kinds := [], alts := [], laidByText := true, laidKinds := [.data, .pinned], laidTests := true, laidLooks := .later }
def DiskNamesUptoCardSaid : Prop := Claim7.holds Tryd.pinned (.plain (OpenSpec.upto diskNamesSpec)) diskNamesUptoCard

/-- THE SECOND FORM's CARD OF 'booklaw3.JsonApplies'. -/
def jsonAppliesUptoCard : Claim7 := { stood := { row := jsonAppliesUptoRow, standIns := [], harness := (true, "47ec055d8afb69fdc39ec9b2b84190fdd0e698c6825b31c45f906ead5c395958"), looks := true }, kinds := [], alts := [], laidByText := true, laidKinds := [.handle], laidTests := true, laidLooks := .later }
def JsonAppliesUptoCardSaid : Prop := Claim7.holds Tryd.pinned (.plain (OpenSpec.upto jsonAppliesSpec)) jsonAppliesUptoCard

/-- THE SECOND FORM's CARD OF 'booklaw6.IdRow'. -/
def idRowUptoCard : Claim7 := { stood := { row := idRowUptoRow, standIns := [], harness := (true, "47ec055d8afb69fdc39ec9b2b84190fdd0e698c6825b31c45f906ead5c395958"), looks := true }, kinds := [], alts := [], laidByText := true, laidKinds := [.data, .data, .data, .data, .sentinel, .sentinel, .pinned], laidTests := true, laidLooks := .later }
def IdRowUptoCardSaid : Prop := Claim7.holds Tryd.pinned (.plain (OpenSpec.upto idRowSpec)) idRowUptoCard

/-- THE SECOND FORM's CARD OF 'booklaw3.JsonChecks'. -/
def jsonChecksUptoCard : Claim7 := { stood := { row := jsonChecksUptoRow, standIns := [], harness := (true, "47ec055d8afb69fdc39ec9b2b84190fdd0e698c6825b31c45f906ead5c395958"), looks := true }, kinds := [], alts := [], laidByText := true, laidKinds := [.data, .data, .data, .handle], laidTests := true, laidLooks := .later }
def JsonChecksUptoCardSaid : Prop := Claim7.holds Tryd.pinned (.plain (OpenSpec.upto jsonChecksSpec)) jsonChecksUptoCard
end Rows
end Go.Proofs.YtljemaapicaioaaDoor
