/-
  DERIVED. GIVEN WITH THE SEED: THE CARDS: each row of YtipdgobplfkipaaGreatDoorRows.lean that lists a variable, with what it lists TIED to the program's text (the seventh form; the later family's looks); each row that meets fmt, with fmt's text TOLD by the authors' own Lean function (tested against real Go, not proved from fmt's source: count such statements apart). THE CARD IS WHAT COUNTS. Prove the row's statement (the work); the ties are given (YtipdgobplfkipaaGreatDoorTie.lean); close each card by the builder's one call (the guide's Derived/Test/ToyasCard.lean, 'card_holds'). Laid BY PROGRAM, IN A SANDBOX (cutbox-door.mjs). By AI agents, Wed Nov 11 2026. No macro, syntax, notation, axiom, sorry.
-/
import Derived.Test.YtipdgobplfkipaaGreatDoorRows
import GoSem.ClaimSeven
namespace Go.Proofs.YtipdgobplfkipaaGreatDoor
namespace Rows

/-- THE TIED CARD OF 'scrimlaw08.NotationReads'. -/
def notationReadsCard : Claim7 := { stood := { row := notationReadsRow, standIns := [], harness := (true, "9b7d98a50fb5a8bd41bc69490197f4b2eb5ec5c28ac3a1eb76802a34a7b3d298"), looks := true }, kinds := [], alts := [], laidByText := true, laidKinds := [.data, .data, .data], laidTests := true, laidLooks := .later }
def NotationReadsCardSaid : Prop := Claim7.holds Tryz.pinned (.plain (OpenSpec.ofChange notationReadsSpec)) notationReadsCard

/-- THE TIED CARD OF 'scrimlaw08.NotationBlanks'. -/
def notationBlanksCard : Claim7 := { stood := { row := notationBlanksRow, standIns := [], harness := (true, "9b7d98a50fb5a8bd41bc69490197f4b2eb5ec5c28ac3a1eb76802a34a7b3d298"), looks := true }, kinds := [], alts := [], laidByText := true, laidKinds := [.data, .data, .data], laidTests := true, laidLooks := .later }
def NotationBlanksCardSaid : Prop := Claim7.holds Tryz.pinned (.plain (OpenSpec.ofChange notationBlanksSpec)) notationBlanksCard

/-- THE TIED CARD OF 'scrimlaw08.NotationPrints'. -/
def notationPrintsCard : Claim7 := { stood := { row := notationPrintsRow, standIns := [], harness := (true, "9b7d98a50fb5a8bd41bc69490197f4b2eb5ec5c28ac3a1eb76802a34a7b3d298"), looks := true }, kinds := [], alts := [], laidByText := true, laidKinds := [.data, .data, .data], laidTests := true, laidLooks := .later }
def NotationPrintsCardSaid : Prop := Claim7.holds Tryz.pinned (.plain (OpenSpec.ofChange notationPrintsSpec)) notationPrintsCard

/-- THE TIED CARD OF 'scrimlaw08.NotationBack'. -/
def notationBackCard : Claim7 := { stood := { row := notationBackRow, standIns := [], harness := (true, "9b7d98a50fb5a8bd41bc69490197f4b2eb5ec5c28ac3a1eb76802a34a7b3d298"), looks := true }, kinds := [], alts := [], laidByText := true, laidKinds := [.data, .data, .data], laidTests := true, laidLooks := .later }
def NotationBackCardSaid : Prop := Claim7.holds Tryz.pinned (.plain (OpenSpec.ofChange notationBackSpec)) notationBackCard

/-- THE SECOND FORM's CARD OF 'scrimlaw08.NotationReads'. -/
def notationReadsUptoCard : Claim7 := { stood := { row := notationReadsUptoRow, standIns := [], harness := (true, "9b7d98a50fb5a8bd41bc69490197f4b2eb5ec5c28ac3a1eb76802a34a7b3d298"), looks := true }, kinds := [], alts := [], laidByText := true, laidKinds := [.data, .data, .data], laidTests := true, laidLooks := .later }
def NotationReadsUptoCardSaid : Prop := Claim7.holds Tryz.pinned (.plain (OpenSpec.upto notationReadsSpec)) notationReadsUptoCard

/-- THE SECOND FORM's CARD OF 'scrimlaw08.NotationBlanks'. -/
def notationBlanksUptoCard : Claim7 := { stood := { row := notationBlanksUptoRow, standIns := [], harness := (true, "9b7d98a50fb5a8bd41bc69490197f4b2eb5ec5c28ac3a1eb76802a34a7b3d298"), looks := true }, kinds := [], alts := [], laidByText := true, laidKinds := [.data, .data, .data], laidTests := true, laidLooks := .later }
def NotationBlanksUptoCardSaid : Prop := Claim7.holds Tryz.pinned (.plain (OpenSpec.upto notationBlanksSpec)) notationBlanksUptoCard

/-- THE SECOND FORM's CARD OF 'scrimlaw08.NotationPrints'. -/
def notationPrintsUptoCard : Claim7 := { stood := { row := notationPrintsUptoRow, standIns := [], harness := (true, "9b7d98a50fb5a8bd41bc69490197f4b2eb5ec5c28ac3a1eb76802a34a7b3d298"), looks := true }, kinds := [], alts := [], laidByText := true, laidKinds := [.data, .data, .data], laidTests := true, laidLooks := .later }
def NotationPrintsUptoCardSaid : Prop := Claim7.holds Tryz.pinned (.plain (OpenSpec.upto notationPrintsSpec)) notationPrintsUptoCard

/-- THE SECOND FORM's CARD OF 'scrimlaw08.NotationBack'. -/
def notationBackUptoCard : Claim7 := { stood := { row := notationBackUptoRow, standIns := [], harness := (true, "9b7d98a50fb5a8bd41bc69490197f4b2eb5ec5c28ac3a1eb76802a34a7b3d298"), looks := true }, kinds := [], alts := [], laidByText := true, laidKinds := [.data, .data, .data], laidTests := true, laidLooks := .later }
def NotationBackUptoCardSaid : Prop := Claim7.holds Tryz.pinned (.plain (OpenSpec.upto notationBackSpec)) notationBackUptoCard
end Rows
end Go.Proofs.YtipdgobplfkipaaGreatDoor
