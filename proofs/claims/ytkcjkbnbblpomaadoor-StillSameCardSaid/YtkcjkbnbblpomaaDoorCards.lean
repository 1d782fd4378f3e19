/-
  DERIVED. GIVEN WITH THE SEED: THE CARDS: each row of YtkcjkbnbblpomaaDoorRows.lean that lists a variable, with what it lists TIED to the program's text (the seventh form; the later family's looks); each row that meets fmt, with fmt's text TOLD by the authors' own Lean function (tested against real Go, not proved from fmt's source: count such statements apart). THE CARD IS WHAT COUNTS. Prove the row's statement (the work); the ties are given (YtkcjkbnbblpomaaDoorTie.lean); close each card by the builder's one call (the guide's Derived/Test/ToyasCard.lean, 'card_holds'). Laid BY PROGRAM, IN A SANDBOX (cutbox-door.mjs). By AI agents, Wed Nov 11 2026. No macro, syntax, notation, axiom, sorry.
-/
import Derived.Test.YtkcjkbnbblpomaaDoorRows
import GoSem.ClaimSeven
namespace Go.Proofs.YtkcjkbnbblpomaaDoor
namespace Rows

/-- THE TIED CARD OF 'scrimlaw09.StillSame'. -/
def stillSameCard : Claim7 := { stood := { row := stillSameRow, standIns := [], harness := (true, "8d2f50894b52a6551248b4d09b4fa17d205f1b37d29ee87143bdc0b7f04437d7"), looks := false }, kinds := [], alts := [], laidByText := true, laidKinds := [.data, .data, .data], laidTests := true, laidLooks := .later }
def StillSameCardSaid : Prop := Claim7.holds Tryd.pinned (.plain (OpenSpec.ofChange stillSameSpec)) stillSameCard

/-- THE SECOND FORM's CARD OF 'scrimlaw09.StillSame'. -/
def stillSameUptoCard : Claim7 := { stood := { row := stillSameUptoRow, standIns := [], harness := (true, "8d2f50894b52a6551248b4d09b4fa17d205f1b37d29ee87143bdc0b7f04437d7"), looks := false }, kinds := [], alts := [], laidByText := true, laidKinds := [.data, .data, .data], laidTests := true, laidLooks := .later }
def StillSameUptoCardSaid : Prop := Claim7.holds Tryd.pinned (.plain (OpenSpec.upto stillSameSpec)) stillSameUptoCard
end Rows
end Go.Proofs.YtkcjkbnbblpomaaDoor
