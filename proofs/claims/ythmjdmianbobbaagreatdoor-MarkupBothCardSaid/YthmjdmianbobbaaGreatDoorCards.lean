/-
  DERIVED. GIVEN WITH THE SEED: THE CARDS: each row of YthmjdmianbobbaaGreatDoorRows.lean that lists a variable, with what it lists TIED to the program's text (the seventh form; the later family's looks); each row that meets fmt, with fmt's text TOLD by the authors' own Lean function (tested against real Go, not proved from fmt's source: count such statements apart). THE CARD IS WHAT COUNTS. Prove the row's statement (the work); the ties are given (YthmjdmianbobbaaGreatDoorTie.lean); close each card by the builder's one call (the guide's Derived/Test/ToyasCard.lean, 'card_holds'). Laid BY PROGRAM, IN A SANDBOX (cutbox-door.mjs). By AI agents, Wed Nov 11 2026. No macro, syntax, notation, axiom, sorry.
-/
import Derived.Test.YthmjdmianbobbaaGreatDoorRows
import GoSem.ClaimSeven
namespace Go.Proofs.YthmjdmianbobbaaGreatDoor
namespace Rows

/-- THE TIED CARD OF 'cardcaselaw20.DevinfReads'. -/
def devinfReadsCard : Claim7 := { stood := { row := devinfReadsRow, standIns := [], harness := (true, "5b73de2f7c9530c6751e7c8263d50925864ef6655fc6ad7e12e4680f3ab8aa55"), looks := true }, kinds := [], alts := [], laidByText := true, laidKinds := [.data, .listed, .data, .pinned], laidTests := true, laidLooks := .later }
def DevinfReadsCardSaid : Prop := Claim7.holds Tryz.pinned (.plain (OpenSpec.ofChange devinfReadsSpec)) devinfReadsCard

/-- THE TIED CARD OF 'cardcaselaw16.MarkupBoth'. -/
def markupBothCard : Claim7 := { stood := { row := markupBothRow, standIns := [], harness := (true, "5b73de2f7c9530c6751e7c8263d50925864ef6655fc6ad7e12e4680f3ab8aa55"), looks := true }, kinds := [], alts := [], laidByText := true, laidKinds := [.data, .listed, .data, .pinned], laidTests := true, laidLooks := .later }
def MarkupBothCardSaid : Prop := Claim7.holds Tryz.pinned (.plain (OpenSpec.ofChange markupBothSpec)) markupBothCard

/-- THE TIED CARD OF 'cardcaselaw20.DevinfBack'. -/
def devinfBackCard : Claim7 := { stood := { row := devinfBackRow, standIns := [], harness := (true, "5b73de2f7c9530c6751e7c8263d50925864ef6655fc6ad7e12e4680f3ab8aa55"), looks := true }, kinds := [], alts := [], laidByText := true, laidKinds := [.data, .listed, .data, .pinned], laidTests := true, laidLooks := .later }
def DevinfBackCardSaid : Prop := Claim7.holds Tryz.pinned (.plain (OpenSpec.ofChange devinfBackSpec)) devinfBackCard

/-- THE SECOND FORM's CARD OF 'cardcaselaw20.DevinfReads'. -/
def devinfReadsUptoCard : Claim7 := { stood := { row := devinfReadsUptoRow, standIns := [], harness := (true, "5b73de2f7c9530c6751e7c8263d50925864ef6655fc6ad7e12e4680f3ab8aa55"), looks := true }, kinds := [], alts := [], laidByText := true, laidKinds := [.data, .listed, .data, .pinned], laidTests := true, laidLooks := .later }
def DevinfReadsUptoCardSaid : Prop := Claim7.holds Tryz.pinned (.plain (OpenSpec.upto devinfReadsSpec)) devinfReadsUptoCard

/-- THE SECOND FORM's CARD OF 'cardcaselaw16.MarkupBoth'. -/
def markupBothUptoCard : Claim7 := { stood := { row := markupBothUptoRow, standIns := [], harness := (true, "5b73de2f7c9530c6751e7c8263d50925864ef6655fc6ad7e12e4680f3ab8aa55"), looks := true }, kinds := [], alts := [], laidByText := true, laidKinds := [.data, .listed, .data, .pinned], laidTests := true, laidLooks := .later }
def MarkupBothUptoCardSaid : Prop := Claim7.holds Tryz.pinned (.plain (OpenSpec.upto markupBothSpec)) markupBothUptoCard

/-- THE SECOND FORM's CARD OF 'cardcaselaw20.DevinfBack'. -/
def devinfBackUptoCard : Claim7 := { stood := { row := devinfBackUptoRow, standIns := [], harness := (true, "5b73de2f7c9530c6751e7c8263d50925864ef6655fc6ad7e12e4680f3ab8aa55"), looks := true }, kinds := [], alts := [], laidByText := true, laidKinds := [.data, .listed, .data, .pinned], laidTests := true, laidLooks := .later }
def DevinfBackUptoCardSaid : Prop := Claim7.holds Tryz.pinned (.plain (OpenSpec.upto devinfBackSpec)) devinfBackUptoCard
end Rows
end Go.Proofs.YthmjdmianbobbaaGreatDoor
