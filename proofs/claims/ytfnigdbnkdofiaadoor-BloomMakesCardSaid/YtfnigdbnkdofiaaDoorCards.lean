/-
  DERIVED. GIVEN WITH THE SEED: THE CARDS: each row of YtfnigdbnkdofiaaDoorRows.lean that lists a variable, with what it lists TIED to the program's text (the seventh form; the later family's looks); each row that meets fmt, with fmt's text TOLD by the authors' own Lean function (tested against real Go, not proved from fmt's source: count such statements apart). THE CARD IS WHAT COUNTS. Prove the row's statement (the work); the ties are given (YtfnigdbnkdofiaaDoorTie.lean); close each card by the builder's one call (the guide's Derived/Test/ToyasCard.lean, 'card_holds'). Laid BY PROGRAM, IN A SANDBOX (cutbox-door.mjs). By AI agents, Wed Nov 11 2026. No macro, syntax, notation, axiom, sorry.
-/
import Derived.Test.YtfnigdbnkdofiaaDoorRows
import GoSem.ClaimSeven
namespace Go.Proofs.YtfnigdbnkdofiaaDoor
namespace Rows

/-- THE TIED CARD OF 'booklaw3.JsonChecks'. -/
def jsonChecksCard : Claim7 := { stood := { row := jsonChecksRow, standIns := [], harness := (true, "45c8833d947870ce284eff246d488e4d59fd2fad0d7f1c6baa6bf52172675322"), looks := true }, kinds := [], alts := [], laidByText := true, laidKinds := [.data, .data, .data, .handle], laidTests := true, laidLooks := .later }
def JsonChecksCardSaid : Prop := Claim7.holds Tryd.pinned (.plain (OpenSpec.ofChange jsonChecksSpec)) jsonChecksCard

/-- THE TIED CARD OF 'booklaw3.BloomMakes'. -/
def bloomMakesCard : Claim7 := { stood := { row := bloomMakesRow, standIns := [], harness := (true, "45c8833d947870ce284eff246d488e4d59fd2fad0d7f1c6baa6bf52172675322"), looks := true }, kinds := [], alts := [], laidByText := true, laidKinds := [.handle], laidTests := true, laidLooks := .later }
def BloomMakesCardSaid : Prop := Claim7.holds Tryd.pinned (.plain (OpenSpec.ofChange bloomMakesSpec)) bloomMakesCard

/-- THE SECOND FORM's CARD OF 'booklaw3.JsonChecks'. -/
def jsonChecksUptoCard : Claim7 := { stood := { row := jsonChecksUptoRow, standIns := [], harness := (true, "45c8833d947870ce284eff246d488e4d59fd2fad0d7f1c6baa6bf52172675322"), looks := true }, kinds := [], alts := [], laidByText := true, laidKinds := [.data, .data, .data, .handle], laidTests := true, laidLooks := .later }
def JsonChecksUptoCardSaid : Prop := Claim7.holds Tryd.pinned (.plain (OpenSpec.upto jsonChecksSpec)) jsonChecksUptoCard

/-- THE SECOND FORM's CARD OF 'booklaw3.BloomMakes'. -/
def bloomMakesUptoCard : Claim7 := { stood := { row := bloomMakesUptoRow, standIns := [], harness := (true, "45c8833d947870ce284eff246d488e4d59fd2fad0d7f1c6baa6bf52172675322"), looks := true }, kinds := [], alts := [], laidByText := true, laidKinds := [.handle], laidTests := true, laidLooks := .later }
def BloomMakesUptoCardSaid : Prop := Claim7.holds Tryd.pinned (.plain (OpenSpec.upto bloomMakesSpec)) bloomMakesUptoCard
end Rows
end Go.Proofs.YtfnigdbnkdofiaaDoor
