/-
  DERIVED. GIVEN WITH THE SEED: THE CARDS: each row of YtakejjfmbgbedaaDoorRows.lean that lists a variable, with what it lists TIED to the program's text (the seventh form; the later family's looks); each row that meets fmt, with fmt's text TOLD by the authors' own Lean function (tested against real Go, not proved from fmt's source: count such statements apart). THE CARD IS WHAT COUNTS. Prove the row's statement (the work); the ties are given (YtakejjfmbgbedaaDoorTie.lean); close each card by the builder's one call (the guide's Derived/Test/ToyasCard.lean, 'card_holds'). Laid BY PROGRAM, IN A SANDBOX (cutbox-door.mjs). By AI agents, Wed Nov 11 2026. No macro, syntax, notation, axiom, sorry.
-/
import Derived.Test.YtakejjfmbgbedaaDoorRows
import GoSem.ClaimSeven
namespace Go.Proofs.YtakejjfmbgbedaaDoor
namespace Rows

/-- THE TIED CARD OF 'scrimlaw02.WordChecks'. -/
def wordChecksCard : Claim7 := { stood := { row := wordChecksRow, standIns := [], harness := (true, "b2cf5c03f73955092d56ad8a805c3ea7f448a7bc08d6b7442841e070e11e41d3"), looks := false }, kinds := [], alts := [], laidByText := true, laidKinds := [.data, .data, .data], laidTests := true, laidLooks := .later }
def WordChecksCardSaid : Prop := Claim7.holds Tryd.pinned (.plain (OpenSpec.ofChange wordChecksSpec)) wordChecksCard

/-- THE TIED CARD OF 'scrimlaw02.WordNumbers'. -/
def wordNumbersCard : Claim7 := { stood := { row := wordNumbersRow, standIns := [], harness := (true, "b2cf5c03f73955092d56ad8a805c3ea7f448a7bc08d6b7442841e070e11e41d3"), looks := false }, kinds := [], alts := [], laidByText := true, laidKinds := [.data, .data, .data], laidTests := true, laidLooks := .later }
def WordNumbersCardSaid : Prop := Claim7.holds Tryd.pinned (.plain (OpenSpec.ofChange wordNumbersSpec)) wordNumbersCard

/-- THE TIED CARD OF 'scrimlaw02.WordDigits'. -/
def wordDigitsCard : Claim7 := { stood := { row := wordDigitsRow, standIns := [], harness := (true, "b2cf5c03f73955092d56ad8a805c3ea7f448a7bc08d6b7442841e070e11e41d3"), looks := false }, kinds := [], alts := [], laidByText := true, laidKinds := [.data, .data, .data], laidTests := true, laidLooks := .later }
def WordDigitsCardSaid : Prop := Claim7.holds Tryd.pinned (.plain (OpenSpec.ofChange wordDigitsSpec)) wordDigitsCard

/-- THE TIED CARD OF 'scrimlaw02.WordReserved'. -/
def wordReservedCard : Claim7 := { stood := { row := wordReservedRow, standIns := [], harness := (true, "b2cf5c03f73955092d56ad8a805c3ea7f448a7bc08d6b7442841e070e11e41d3"), looks := false }, kinds := [], alts := [], laidByText := true, laidKinds := [.data, .data, .data], laidTests := true, laidLooks := .later }
def WordReservedCardSaid : Prop := Claim7.holds Tryd.pinned (.plain (OpenSpec.ofChange wordReservedSpec)) wordReservedCard

/-- THE TIED CARD OF 'scrimlaw02.WordMay'. -/
def wordMayCard : Claim7 := { stood := { row := wordMayRow, standIns := [], harness := (true, "b2cf5c03f73955092d56ad8a805c3ea7f448a7bc08d6b7442841e070e11e41d3"), looks := false }, kinds := [], alts := [], laidByText := true, laidKinds := [.data, .data, .data], laidTests := true, laidLooks := .later }
def WordMayCardSaid : Prop := Claim7.holds Tryd.pinned (.plain (OpenSpec.ofChange wordMaySpec)) wordMayCard

/-- THE SECOND FORM's CARD OF 'scrimlaw02.WordChecks'. -/
def wordChecksUptoCard : Claim7 := { stood := { row := wordChecksUptoRow, standIns := [], harness := (true, "b2cf5c03f73955092d56ad8a805c3ea7f448a7bc08d6b7442841e070e11e41d3"), looks := false }, kinds := [], alts := [], laidByText := true, laidKinds := [.data, .data, .data], laidTests := true, laidLooks := .later }
def WordChecksUptoCardSaid : Prop := Claim7.holds Tryd.pinned (.plain (OpenSpec.upto wordChecksSpec)) wordChecksUptoCard

/-- THE SECOND FORM's CARD OF 'scrimlaw02.WordNumbers'. -/
def wordNumbersUptoCard : Claim7 := { stood := { row := wordNumbersUptoRow, standIns := [], harness := (true, "b2cf5c03f73955092d56ad8a805c3ea7f448a7bc08d6b7442841e070e11e41d3"), looks := false }, kinds := [], alts := [], laidByText := true, laidKinds := [.data, .data, .data], laidTests := true, laidLooks := .later }
def WordNumbersUptoCardSaid : Prop := Claim7.holds Tryd.pinned (.plain (OpenSpec.upto wordNumbersSpec)) wordNumbersUptoCard

/-- THE SECOND FORM's CARD OF 'scrimlaw02.WordDigits'. -/
def wordDigitsUptoCard : Claim7 := { stood := { row := wordDigitsUptoRow, standIns := [], harness := (true, "b2cf5c03f73955092d56ad8a805c3ea7f448a7bc08d6b7442841e070e11e41d3"), looks := false }, kinds := [], alts := [], laidByText := true, laidKinds := [.data, .data, .data], laidTests := true, laidLooks := .later }
def WordDigitsUptoCardSaid : Prop := Claim7.holds Tryd.pinned (.plain (OpenSpec.upto wordDigitsSpec)) wordDigitsUptoCard

/-- THE SECOND FORM's CARD OF 'scrimlaw02.WordReserved'. -/
def wordReservedUptoCard : Claim7 := { stood := { row := wordReservedUptoRow, standIns := [], harness := (true, "b2cf5c03f73955092d56ad8a805c3ea7f448a7bc08d6b7442841e070e11e41d3"), looks := false }, kinds := [], alts := [], laidByText := true, laidKinds := [.data, .data, .data], laidTests := true, laidLooks := .later }
def WordReservedUptoCardSaid : Prop := Claim7.holds Tryd.pinned (.plain (OpenSpec.upto wordReservedSpec)) wordReservedUptoCard

/-- THE SECOND FORM's CARD OF 'scrimlaw02.WordMay'. -/
def wordMayUptoCard : Claim7 := { stood := { row := wordMayUptoRow, standIns := [], harness := (true, "b2cf5c03f73955092d56ad8a805c3ea7f448a7bc08d6b7442841e070e11e41d3"), looks := false }, kinds := [], alts := [], laidByText := true, laidKinds := [.data, .data, .data], laidTests := true, laidLooks := .later }
def WordMayUptoCardSaid : Prop := Claim7.holds Tryd.pinned (.plain (OpenSpec.upto wordMaySpec)) wordMayUptoCard
end Rows
end Go.Proofs.YtakejjfmbgbedaaDoor
