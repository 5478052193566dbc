/-
  DERIVED. GIVEN WITH THE SEED: THE CARDS: each row of YtnhmbpeicgnjaaaDoorRows.lean that lists a variable, with what it lists TIED to the program's text (the seventh form; the later family's looks); each row that meets fmt, with fmt's text TOLD by the authors' own Lean function (tested against real Go, not proved from fmt's source: count such statements apart). THE CARD IS WHAT COUNTS. Prove the row's statement (the work); the ties are given (YtnhmbpeicgnjaaaDoorTie.lean); close each card by the builder's one call (the guide's Derived/Test/ToyasCard.lean, 'card_holds'). Laid BY PROGRAM, IN A SANDBOX (cutbox-door.mjs). By AI agents, Wed Nov 11 2026. No macro, syntax, notation, axiom, sorry.
-/
import Derived.Test.YtnhmbpeicgnjaaaDoorRows
import GoSem.ClaimSeven
namespace Go.Proofs.YtnhmbpeicgnjaaaDoor
namespace Rows

/-- THE TIED CARD OF 'booklaw5.WordsThere'. -/
def wordsThereCard : Claim7 := { stood := { row := wordsThereRow, standIns := [], harness := (true, "456ac22f808d6845ed5968e1f1384a9db94cc9a359d2ab7ce0be66732684c173"), looks := true }, kinds := [], alts := [], laidByText := true, laidKinds := [.data, .pinned], laidTests := true, laidLooks := .later }
def WordsThereCardSaid : Prop := Claim7.holds Tryd.pinned (.plain (OpenSpec.ofChange wordsThereSpec)) wordsThereCard

/-- THE TIED CARD OF 'booklaw3.BloomMakes'. -/
def bloomMakesCard : Claim7 := { stood := { row := bloomMakesRow, standIns := [], harness := (true, "456ac22f808d6845ed5968e1f1384a9db94cc9a359d2ab7ce0be66732684c173"), looks := true }, kinds := [], alts := [], laidByText := true, laidKinds := [.handle], laidTests := true, laidLooks := .later }
def BloomMakesCardSaid : Prop := Claim7.holds Tryd.pinned (.plain (OpenSpec.ofChange bloomMakesSpec)) bloomMakesCard

/-- THE TIED CARD OF 'booklaw5.WordsConverts'. -/
def wordsConvertsCard : Claim7 := { stood := { row := wordsConvertsRow, standIns := [], harness := (true, "456ac22f808d6845ed5968e1f1384a9db94cc9a359d2ab7ce0be66732684c173"), looks := true }, kinds := [], alts := [], laidByText := true, laidKinds := [.data, .handle, .pinned], laidTests := true, laidLooks := .later }
def WordsConvertsCardSaid : Prop := Claim7.holds Tryd.pinned (.plain (OpenSpec.ofChange wordsConvertsSpec)) wordsConvertsCard

/-- THE TIED CARD OF 'booklaw3.DiskKeeps'. -/
def diskKeepsCard : Claim7 := { stood := { row := diskKeepsRow, standIns := [], harness := (true, "456ac22f808d6845ed5968e1f1384a9db94cc9a359d2ab7ce0be66732684c173"), looks := true }, kinds := [], alts := [], laidByText := true, laidKinds := [.data, .pinned], laidTests := true, laidLooks := .later }
def DiskKeepsCardSaid : Prop := Claim7.holds Tryd.pinned (.plain (OpenSpec.ofChange diskKeepsSpec)) diskKeepsCard

/-- THE TIED CARD OF 'booklaw6.DiskNames'. -/
def diskNamesCard : Claim7 := { stood := { row := diskNamesRow, standIns := [], harness := (true, "456ac22f808d6845ed5968e1f1384a9db94cc9a359d2ab7ce0be66732684c173"), looks := true }, kinds := [], alts := [], laidByText := true, laidKinds := [.data, .pinned], laidTests := true, laidLooks := .later }
def DiskNamesCardSaid : Prop := Claim7.holds Tryd.pinned (.plain (OpenSpec.ofChange diskNamesSpec)) diskNamesCard

/-- THE TIED CARD OF 'booklaw3.DiskPlays'. -/
def diskPlaysCard : Claim7 := { stood := { row := diskPlaysRow, standIns := [], harness := (true, "456ac22f808d6845ed5968e1f1384a9db94cc9a359d2ab7ce0be66732684c173"), looks := true }, kinds := [], alts := [], laidByText := true, laidKinds := [.data, .handle, .pinned], laidTests := true, laidLooks := .later }
def DiskPlaysCardSaid : Prop := Claim7.holds Tryd.pinned (.plain (OpenSpec.ofChange diskPlaysSpec)) diskPlaysCard

/-- THE SECOND FORM's CARD OF 'booklaw5.WordsThere'. -/
def wordsThereUptoCard : Claim7 := { stood := { row := wordsThereUptoRow, standIns := [], harness := (true, "456ac22f808d6845ed5968e1f1384a9db94cc9a359d2ab7ce0be66732684c173"), looks := true }, kinds := [], alts := [], laidByText := true, laidKinds := [.data, .pinned], laidTests := true, laidLooks := .later }
def WordsThereUptoCardSaid : Prop := Claim7.holds Tryd.pinned (.plain (OpenSpec.upto wordsThereSpec)) wordsThereUptoCard

/-- THE SECOND FORM's CARD OF 'booklaw3.BloomMakes'. -/
def bloomMakesUptoCard : Claim7 := { stood := { row := bloomMakesUptoRow, standIns := [], harness := (true, "456ac22f808d6845ed5968e1f1384a9db94cc9a359d2ab7ce0be66732684c173"), looks := true }, kinds := [], alts := [], laidByText := true, laidKinds := [.handle], laidTests := true, laidLooks := .later }
def BloomMakesUptoCardSaid : Prop := Claim7.holds Tryd.pinned (.plain (OpenSpec.upto bloomMakesSpec)) bloomMakesUptoCard

/-- THE SECOND FORM's CARD OF 'booklaw5.WordsConverts'. -/
def wordsConvertsUptoCard : Claim7 := { stood := { row := wordsConvertsUptoRow, standIns := [], harness := (true, "456ac22f808d6845ed5968e1f1384a9db94cc9a359d2ab7ce0be66732684c173"), looks := true }, kinds := [], alts := [], laidByText := true, laidKinds := [.data, .handle, .pinned], laidTests := true, laidLooks := .later }
def WordsConvertsUptoCardSaid : Prop := Claim7.holds Tryd.pinned (.plain (OpenSpec.upto wordsConvertsSpec)) wordsConvertsUptoCard

/-- THE SECOND FORM's CARD OF 'booklaw3.DiskKeeps'. -/
def diskKeepsUptoCard : Claim7 := { stood := { row := diskKeepsUptoRow, standIns := [], harness := (true, "456ac22f808d6845ed5968e1f1384a9db94cc9a359d2ab7ce0be66732684c173"), looks := true }, kinds := [], alts := [], laidByText := true, laidKinds := [.data, .pinned], laidTests := true, laidLooks := .later }
def DiskKeepsUptoCardSaid : Prop := Claim7.holds Tryd.pinned (.plain (OpenSpec.upto diskKeepsSpec)) diskKeepsUptoCard

/-- THE SECOND FORM's CARD OF 'booklaw6.DiskNames'. -/
def diskNamesUptoCard : Claim7 := { stood := { row := diskNamesUptoRow, standIns := [], harness := (true, "456ac22f808d6845ed5968e1f1384a9db94cc9a359d2ab7ce0be66732684c173"), looks := true }, kinds := [], alts := [], laidByText := true, laidKinds := [.data, .pinned], laidTests := true, laidLooks := .later }
def DiskNamesUptoCardSaid : Prop := Claim7.holds Tryd.pinned (.plain (OpenSpec.upto diskNamesSpec)) diskNamesUptoCard

/-- THE SECOND FORM's CARD OF 'booklaw3.DiskPlays'. -/
def diskPlaysUptoCard : Claim7 := { stood := { row := diskPlaysUptoRow, standIns := [], harness := (true, "456ac22f808d6845ed5968e1f1384a9db94cc9a359d2ab7ce0be66732684c173"), looks := true }, kinds := [], alts := [], laidByText := true, laidKinds := [.data, .handle, .pinned], laidTests := true, laidLooks := .later }
def DiskPlaysUptoCardSaid : Prop := Claim7.holds Tryd.pinned (.plain (OpenSpec.upto diskPlaysSpec)) diskPlaysUptoCard
end Rows
end Go.Proofs.YtnhmbpeicgnjaaaDoor
