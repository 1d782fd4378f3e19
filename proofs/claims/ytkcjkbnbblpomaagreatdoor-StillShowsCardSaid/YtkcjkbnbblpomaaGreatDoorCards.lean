/-
  DERIVED. GIVEN WITH THE SEED: THE CARDS: each row of YtkcjkbnbblpomaaGreatDoorRows.lean that lists a variable, with what it lists TIED to the program's text (the seventh form; the later family's looks); each row that meets fmt, with fmt's text TOLD by the authors' own Lean function (tested against real Go, not proved from fmt's source: count such statements apart). THE CARD IS WHAT COUNTS. Prove the row's statement (the work); the ties are given (YtkcjkbnbblpomaaGreatDoorTie.lean); close each card by the builder's one call (the guide's Derived/Test/ToyasCard.lean, 'card_holds'). Laid BY PROGRAM, IN A SANDBOX (cutbox-door.mjs). By AI agents, Wed Nov 11 2026. No macro, syntax, notation, axiom, sorry.
-/
import Derived.Test.YtkcjkbnbblpomaaGreatDoorRows
import GoSem.ClaimSeven
namespace Go.Proofs.YtkcjkbnbblpomaaGreatDoor
namespace Rows

/-- THE TIED CARD OF 'scrimlaw09.StillViews'. -/
def stillViewsCard : Claim7 := { stood := { row := stillViewsRow, standIns := [], harness := (true, "d628617c808a01887c77d277d2e8ce9c2fcb39f27ae96d85c1c6837339b391f9"), looks := false }, kinds := [], alts := [], laidByText := true, laidKinds := [.data, .data, .data], laidTests := true, laidLooks := .later }
def StillViewsCardSaid : Prop := Claim7.holds Tryz.pinned (.plain (OpenSpec.ofChange stillViewsSpec)) stillViewsCard

/-- THE TIED CARD OF 'scrimlaw09.StillFinds'. -/
def stillFindsCard : Claim7 := { stood := { row := stillFindsRow, standIns := [], harness := (true, "d628617c808a01887c77d277d2e8ce9c2fcb39f27ae96d85c1c6837339b391f9"), looks := false }, kinds := [], alts := [], laidByText := true, laidKinds := [.data, .data, .data], laidTests := true, laidLooks := .later }
def StillFindsCardSaid : Prop := Claim7.holds Tryz.pinned (.plain (OpenSpec.ofChange stillFindsSpec)) stillFindsCard

/-- THE TIED CARD OF 'scrimlaw09.StillErases'. -/
def stillErasesCard : Claim7 := { stood := { row := stillErasesRow, standIns := [], harness := (true, "d628617c808a01887c77d277d2e8ce9c2fcb39f27ae96d85c1c6837339b391f9"), looks := false }, kinds := [], alts := [], laidByText := true, laidKinds := [.data, .data, .data], laidTests := true, laidLooks := .later }
def StillErasesCardSaid : Prop := Claim7.holds Tryz.pinned (.plain (OpenSpec.ofChange stillErasesSpec)) stillErasesCard

/-- THE TIED CARD OF 'scrimlaw09.StillShows'. -/
def stillShowsCard : Claim7 := { stood := { row := stillShowsRow, standIns := [], harness := (true, "d628617c808a01887c77d277d2e8ce9c2fcb39f27ae96d85c1c6837339b391f9"), looks := false }, kinds := [], alts := [], laidByText := true, laidKinds := [.data, .data, .data], laidTests := true, laidLooks := .later }
def StillShowsCardSaid : Prop := Claim7.holds Tryz.pinned (.plain (OpenSpec.ofChange stillShowsSpec)) stillShowsCard

/-- THE TIED CARD OF 'scrimlaw09.StillStays'. -/
def stillStaysCard : Claim7 := { stood := { row := stillStaysRow, standIns := [], harness := (true, "d628617c808a01887c77d277d2e8ce9c2fcb39f27ae96d85c1c6837339b391f9"), looks := false }, kinds := [], alts := [], laidByText := true, laidKinds := [.data, .data, .data], laidTests := true, laidLooks := .later }
def StillStaysCardSaid : Prop := Claim7.holds Tryz.pinned (.plain (OpenSpec.ofChange stillStaysSpec)) stillStaysCard

/-- THE TIED CARD OF 'scrimlaw09.StillReads'. -/
def stillReadsCard : Claim7 := { stood := { row := stillReadsRow, standIns := [], harness := (true, "d628617c808a01887c77d277d2e8ce9c2fcb39f27ae96d85c1c6837339b391f9"), looks := false }, kinds := [], alts := [], laidByText := true, laidKinds := [.data, .data, .data], laidTests := true, laidLooks := .later }
def StillReadsCardSaid : Prop := Claim7.holds Tryz.pinned (.plain (OpenSpec.ofChange stillReadsSpec)) stillReadsCard

/-- THE SECOND FORM's CARD OF 'scrimlaw09.StillViews'. -/
def stillViewsUptoCard : Claim7 := { stood := { row := stillViewsUptoRow, standIns := [], harness := (true, "d628617c808a01887c77d277d2e8ce9c2fcb39f27ae96d85c1c6837339b391f9"), looks := false }, kinds := [], alts := [], laidByText := true, laidKinds := [.data, .data, .data], laidTests := true, laidLooks := .later }
def StillViewsUptoCardSaid : Prop := Claim7.holds Tryz.pinned (.plain (OpenSpec.upto stillViewsSpec)) stillViewsUptoCard

/-- THE SECOND FORM's CARD OF 'scrimlaw09.StillFinds'. -/
def stillFindsUptoCard : Claim7 := { stood := { row := stillFindsUptoRow, standIns := [], harness := (true, "d628617c808a01887c77d277d2e8ce9c2fcb39f27ae96d85c1c6837339b391f9"), looks := false }, kinds := [], alts := [], laidByText := true, laidKinds := [.data, .data, .data], laidTests := true, laidLooks := .later }
def StillFindsUptoCardSaid : Prop := Claim7.holds Tryz.pinned (.plain (OpenSpec.upto stillFindsSpec)) stillFindsUptoCard

/-- THE SECOND FORM's CARD OF 'scrimlaw09.StillErases'. -/
def stillErasesUptoCard : Claim7 := { stood := { row := stillErasesUptoRow, standIns := [], harness := (true, "d628617c808a01887c77d277d2e8ce9c2fcb39f27ae96d85c1c6837339b391f9"), looks := false }, kinds := [], alts := [], laidByText := true, laidKinds := [.data, .data, .data], laidTests := true, laidLooks := .later }
def StillErasesUptoCardSaid : Prop := Claim7.holds Tryz.pinned (.plain (OpenSpec.upto stillErasesSpec)) stillErasesUptoCard

/-- THE SECOND FORM's CARD OF 'scrimlaw09.StillShows'. -/
def stillShowsUptoCard : Claim7 := { stood := { row := stillShowsUptoRow, standIns := [], harness := (true, "d628617c808a01887c77d277d2e8ce9c2fcb39f27ae96d85c1c6837339b391f9"), looks := false }, kinds := [], alts := [], laidByText := true, laidKinds := [.data, .data, .data], laidTests := true, laidLooks := .later }
def StillShowsUptoCardSaid : Prop := Claim7.holds Tryz.pinned (.plain (OpenSpec.upto stillShowsSpec)) stillShowsUptoCard

/-- THE SECOND FORM's CARD OF 'scrimlaw09.StillStays'. -/
def stillStaysUptoCard : Claim7 := { stood := { row := stillStaysUptoRow, standIns := [], harness := (true, "d628617c808a01887c77d277d2e8ce9c2fcb39f27ae96d85c1c6837339b391f9"), looks := false }, kinds := [], alts := [], laidByText := true, laidKinds := [.data, .data, .data], laidTests := true, laidLooks := .later }
def StillStaysUptoCardSaid : Prop := Claim7.holds Tryz.pinned (.plain (OpenSpec.upto stillStaysSpec)) stillStaysUptoCard

/-- THE SECOND FORM's CARD OF 'scrimlaw09.StillReads'. -/
def stillReadsUptoCard : Claim7 := { stood := { row := stillReadsUptoRow, standIns := [], harness := (true, "d628617c808a01887c77d277d2e8ce9c2fcb39f27ae96d85c1c6837339b391f9"), looks := false }, kinds := [], alts := [], laidByText := true, laidKinds := [.data, .data, .data], laidTests := true, laidLooks := .later }
def StillReadsUptoCardSaid : Prop := Claim7.holds Tryz.pinned (.plain (OpenSpec.upto stillReadsSpec)) stillReadsUptoCard
end Rows
end Go.Proofs.YtkcjkbnbblpomaaGreatDoor
