/-
  DERIVED. GIVEN WITH THE SEED: THE CARDS: each row of YtgklceoodpocaaaGreatDoorRows.lean that lists a variable, with what it lists TIED to the program's text (the seventh form; the later family's looks); each row that meets fmt, with fmt's text TOLD by the authors' own Lean function (tested against real Go, not proved from fmt's source: count such statements apart). THE CARD IS WHAT COUNTS. Prove the row's statement (the work); the ties are given (YtgklceoodpocaaaGreatDoorTie.lean); close each card by the builder's one call (the guide's Derived/Test/ToyasCard.lean, 'card_holds'). Laid BY PROGRAM, IN A SANDBOX (cutbox-door.mjs). By AI agents, Wed Nov 11 2026. No macro, syntax, notation, axiom, sorry.
-/
import Derived.Test.YtgklceoodpocaaaGreatDoorRows
import GoSem.ClaimSeven
namespace Go.Proofs.YtgklceoodpocaaaGreatDoor
namespace Rows

/-- THE TIED CARD OF 'scrimlaw09.StillReads'. -/
def stillReadsCard : Claim7 := { stood := { row := stillReadsRow, standIns := [], harness := (true, "d3f70e794d1606a735e7247009222ae044a1403368acc51215a00a033cc8abfa"), looks := false }, kinds := [], alts := [], laidByText := true, laidKinds := [.data, .data, .data], laidTests := true, laidLooks := .later }
def StillReadsCardSaid : Prop := Claim7.holds Tryz.pinned (.plain (OpenSpec.ofChange stillReadsSpec)) stillReadsCard

/-- THE SECOND FORM's CARD OF 'scrimlaw09.StillReads'. -/
def stillReadsUptoCard : Claim7 := { stood := { row := stillReadsUptoRow, standIns := [], harness := (true, "d3f70e794d1606a735e7247009222ae044a1403368acc51215a00a033cc8abfa"), looks := false }, kinds := [], alts := [], laidByText := true, laidKinds := [.data, .data, .data], laidTests := true, laidLooks := .later }
def StillReadsUptoCardSaid : Prop := Claim7.holds Tryz.pinned (.plain (OpenSpec.upto stillReadsSpec)) stillReadsUptoCard
end Rows
end Go.Proofs.YtgklceoodpocaaaGreatDoor
