/-
  DERIVED. GIVEN WITH THE SEED: THE CARDS: each row of YtipdgobplfkipaaDoorRows.lean that lists a variable, with what it lists TIED to the program's text (the seventh form; the later family's looks); each row that meets fmt, with fmt's text TOLD by the authors' own Lean function (tested against real Go, not proved from fmt's source: count such statements apart). THE CARD IS WHAT COUNTS. Prove the row's statement (the work); the ties are given (YtipdgobplfkipaaDoorTie.lean); close each card by the builder's one call (the guide's Derived/Test/ToyasCard.lean, 'card_holds'). Laid BY PROGRAM, IN A SANDBOX (cutbox-door.mjs). By AI agents, Wed Nov 11 2026. No macro, syntax, notation, axiom, sorry.
-/
import Derived.Test.YtipdgobplfkipaaDoorRows
import GoSem.ClaimSeven
namespace Go.Proofs.YtipdgobplfkipaaDoor
namespace Rows

/-- THE TIED CARD OF 'scrimlaw08.NotationDeep'. -/
def notationDeepCard : Claim7 := { stood := { row := notationDeepRow, standIns := [], harness := (true, "5efe20f8bbbb1edd991f1cf518402a863aaa3a1a3139c7f0bd4f80c36f7482c4"), looks := true }, kinds := [], alts := [], laidByText := true, laidKinds := [.data, .data, .data], laidTests := true, laidLooks := .later }
def NotationDeepCardSaid : Prop := Claim7.holds Tryd.pinned (.plain (OpenSpec.ofChange notationDeepSpec)) notationDeepCard

/-- THE SECOND FORM's CARD OF 'scrimlaw08.NotationDeep'. -/
def notationDeepUptoCard : Claim7 := { stood := { row := notationDeepUptoRow, standIns := [], harness := (true, "5efe20f8bbbb1edd991f1cf518402a863aaa3a1a3139c7f0bd4f80c36f7482c4"), looks := true }, kinds := [], alts := [], laidByText := true, laidKinds := [.data, .data, .data], laidTests := true, laidLooks := .later }
def NotationDeepUptoCardSaid : Prop := Claim7.holds Tryd.pinned (.plain (OpenSpec.upto notationDeepSpec)) notationDeepUptoCard
end Rows
end Go.Proofs.YtipdgobplfkipaaDoor
