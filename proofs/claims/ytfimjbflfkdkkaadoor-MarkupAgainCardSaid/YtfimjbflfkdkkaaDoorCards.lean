/-
  DERIVED. GIVEN WITH THE SEED: THE CARDS: each row of YtfimjbflfkdkkaaDoorRows.lean that lists a variable, with what it lists TIED to the program's text (the seventh form; the later family's looks); each row that meets fmt, with fmt's text TOLD by the authors' own Lean function (tested against real Go, not proved from fmt's source: count such statements apart). THE CARD IS WHAT COUNTS. Prove the row's statement (the work); the ties are given (YtfimjbflfkdkkaaDoorTie.lean); close each card by the builder's one call (the guide's Derived/Test/ToyasCard.lean, 'card_holds'). Laid BY PROGRAM, IN A SANDBOX (cutbox-door.mjs). By AI agents, Wed Nov 11 2026. No macro, syntax, notation, axiom, sorry.
-/
import Derived.Test.YtfimjbflfkdkkaaDoorRows
import GoSem.ClaimSeven
namespace Go.Proofs.YtfimjbflfkdkkaaDoor
namespace Rows

/-- THE TIED CARD OF 'cardcaselaw16.MarkupBack'. -/
def markupBackCard : Claim7 := { stood := { row := markupBackRow, standIns := [], harness := (true, "ff78ab06b4960e865ddbbdbf73f5971e40c92fcd6f31a987b6590b10d1bee01e"), looks := true }, kinds := [], alts := [], laidByText := true, laidKinds := [.data, .pinned], laidTests := true, laidLooks := .later }
def MarkupBackCardSaid : Prop := Claim7.holds Tryd.pinned (.plain (OpenSpec.ofChange markupBackSpec)) markupBackCard

/-- THE TIED CARD OF 'cardcaselaw16.MarkupAgain'. -/
def markupAgainCard : Claim7 := { stood := { row := markupAgainRow, standIns := [], harness := (true, "ff78ab06b4960e865ddbbdbf73f5971e40c92fcd6f31a987b6590b10d1bee01e"), looks := true }, kinds := [], alts := [], laidByText := true, laidKinds := [.data, .pinned], laidTests := true, laidLooks := .later }
def MarkupAgainCardSaid : Prop := Claim7.holds Tryd.pinned (.plain (OpenSpec.ofChange markupAgainSpec)) markupAgainCard

/-- THE SECOND FORM's CARD OF 'cardcaselaw16.MarkupBack'. -/
def markupBackUptoCard : Claim7 := { stood := { row := markupBackUptoRow, standIns := [], harness := (true, "ff78ab06b4960e865ddbbdbf73f5971e40c92fcd6f31a987b6590b10d1bee01e"), looks := true }, kinds := [], alts := [], laidByText := true, laidKinds := [.data, .pinned], laidTests := true, laidLooks := .later }
def MarkupBackUptoCardSaid : Prop := Claim7.holds Tryd.pinned (.plain (OpenSpec.upto markupBackSpec)) markupBackUptoCard

/-- THE SECOND FORM's CARD OF 'cardcaselaw16.MarkupAgain'. -/
def markupAgainUptoCard : Claim7 := { stood := { row := markupAgainUptoRow, standIns := [], harness := (true, "ff78ab06b4960e865ddbbdbf73f5971e40c92fcd6f31a987b6590b10d1bee01e"), looks := true }, kinds := [], alts := [], laidByText := true, laidKinds := [.data, .pinned], laidTests := true, laidLooks := .later }
def MarkupAgainUptoCardSaid : Prop := Claim7.holds Tryd.pinned (.plain (OpenSpec.upto markupAgainSpec)) markupAgainUptoCard
end Rows
end Go.Proofs.YtfimjbflfkdkkaaDoor
