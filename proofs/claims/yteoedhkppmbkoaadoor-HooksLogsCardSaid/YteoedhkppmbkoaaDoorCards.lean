/-
  DERIVED. GIVEN WITH THE SEED: THE CARDS: each row of YteoedhkppmbkoaaDoorRows.lean that lists a variable, with what it lists TIED to the program's text (the seventh form; the later family's looks); each row that meets fmt, with fmt's text TOLD by the authors' own Lean function (tested against real Go, not proved from fmt's source: count such statements apart). THE CARD IS WHAT COUNTS. Prove the row's statement (the work); the ties are given (YteoedhkppmbkoaaDoorTie.lean); close each card by the builder's one call (the guide's Derived/Test/ToyasCard.lean, 'card_holds'). Laid BY PROGRAM, IN A SANDBOX (cutbox-door.mjs). By AI agents, Wed Nov 11 2026. No macro, syntax, notation, axiom, sorry.
-/
import Derived.Test.YteoedhkppmbkoaaDoorRows
import GoSem.ClaimSeven
namespace Go.Proofs.YteoedhkppmbkoaaDoor
namespace Rows

/-- THE TIED CARD OF 'scrimlaw19.HooksNext'. -/
def hooksNextCard : Claim7 := { stood := { row := hooksNextRow, standIns := [], harness := (true, "1d42005f8d4617b53e5e5f72b7c16f05a0a91caf5119b4d2a2c5b65eda45066f"), looks := false }, kinds := [], alts := [], laidByText := true, laidKinds := [.data], laidTests := true, laidLooks := .later }
def HooksNextCardSaid : Prop := Claim7.holds Tryd.pinned (.plain (OpenSpec.ofChange hooksNextSpec)) hooksNextCard

/-- THE TIED CARD OF 'scrimlaw19.HooksRun'. -/
def hooksRunCard : Claim7 := { stood := { row := hooksRunRow, standIns := [], harness := (true, "1d42005f8d4617b53e5e5f72b7c16f05a0a91caf5119b4d2a2c5b65eda45066f"), looks := false }, kinds := [], alts := [], laidByText := true, laidKinds := [.data], laidTests := true, laidLooks := .later }
def HooksRunCardSaid : Prop := Claim7.holds Tryd.pinned (.plain (OpenSpec.ofChange hooksRunSpec)) hooksRunCard

/-- THE TIED CARD OF 'scrimlaw19.HooksWords'. -/
def hooksWordsCard : Claim7 := { stood := { row := hooksWordsRow, standIns := [], harness := (true, "1d42005f8d4617b53e5e5f72b7c16f05a0a91caf5119b4d2a2c5b65eda45066f"), looks := false }, kinds := [], alts := [], laidByText := true, laidKinds := [.data], laidTests := true, laidLooks := .later }
def HooksWordsCardSaid : Prop := Claim7.holds Tryd.pinned (.plain (OpenSpec.ofChange hooksWordsSpec)) hooksWordsCard

/-- THE TIED CARD OF 'scrimlaw19.HooksApart'. -/
def hooksApartCard : Claim7 := { stood := { row := hooksApartRow, standIns := [], harness := (true, "1d42005f8d4617b53e5e5f72b7c16f05a0a91caf5119b4d2a2c5b65eda45066f"), looks := false }, kinds := [], alts := [], laidByText := true, laidKinds := [.data], laidTests := true, laidLooks := .later }
def HooksApartCardSaid : Prop := Claim7.holds Tryd.pinned (.plain (OpenSpec.ofChange hooksApartSpec)) hooksApartCard

/-- THE TIED CARD OF 'scrimlaw19.HooksLogs'. -/
def hooksLogsCard : Claim7 := { stood := { row := hooksLogsRow, standIns := [], harness := (true, "1d42005f8d4617b53e5e5f72b7c16f05a0a91caf5119b4d2a2c5b65eda45066f"), looks := false }, kinds := [], alts := [], laidByText := true, laidKinds := [.data, .data, .data, .data], laidTests := true, laidLooks := .later }
def HooksLogsCardSaid : Prop := Claim7.holds Tryd.pinned (.plain (OpenSpec.ofChange hooksLogsSpec)) hooksLogsCard

/-- THE TIED CARD OF 'scrimlaw04.PropsSame'. -/
def propsSameCard : Claim7 := { stood := { row := propsSameRow, standIns := [], harness := (true, "1d42005f8d4617b53e5e5f72b7c16f05a0a91caf5119b4d2a2c5b65eda45066f"), looks := false }, kinds := [], alts := [], laidByText := true, laidKinds := [.data, .data, .data], laidTests := true, laidLooks := .later }
def PropsSameCardSaid : Prop := Claim7.holds Tryd.pinned (.plain (OpenSpec.ofChange propsSameSpec)) propsSameCard

/-- THE TIED CARD OF 'scrimlaw04.PropsMaps'. -/
def propsMapsCard : Claim7 := { stood := { row := propsMapsRow, standIns := [], harness := (true, "1d42005f8d4617b53e5e5f72b7c16f05a0a91caf5119b4d2a2c5b65eda45066f"), looks := false }, kinds := [], alts := [], laidByText := true, laidKinds := [.data, .data, .data], laidTests := true, laidLooks := .later }
def PropsMapsCardSaid : Prop := Claim7.holds Tryd.pinned (.plain (OpenSpec.ofChange propsMapsSpec)) propsMapsCard

/-- THE TIED CARD OF 'scrimlaw04.PropsTurns'. -/
def propsTurnsCard : Claim7 := { stood := { row := propsTurnsRow, standIns := [], harness := (true, "1d42005f8d4617b53e5e5f72b7c16f05a0a91caf5119b4d2a2c5b65eda45066f"), looks := false }, kinds := [], alts := [], laidByText := true, laidKinds := [.data, .data, .data], laidTests := true, laidLooks := .later }
def PropsTurnsCardSaid : Prop := Claim7.holds Tryd.pinned (.plain (OpenSpec.ofChange propsTurnsSpec)) propsTurnsCard

/-- THE SECOND FORM's CARD OF 'scrimlaw19.HooksNext'. -/
def hooksNextUptoCard : Claim7 := { stood := { row := hooksNextUptoRow, standIns := [], harness := (true, "1d42005f8d4617b53e5e5f72b7c16f05a0a91caf5119b4d2a2c5b65eda45066f"), looks := false }, kinds := [], alts := [], laidByText := true, laidKinds := [.data], laidTests := true, laidLooks := .later }
def HooksNextUptoCardSaid : Prop := Claim7.holds Tryd.pinned (.plain (OpenSpec.upto hooksNextSpec)) hooksNextUptoCard

/-- THE SECOND FORM's CARD OF 'scrimlaw19.HooksRun'. -/
def hooksRunUptoCard : Claim7 := { stood := { row := hooksRunUptoRow, standIns := [], harness := (true, "1d42005f8d4617b53e5e5f72b7c16f05a0a91caf5119b4d2a2c5b65eda45066f"), looks := false }, kinds := [], alts := [], laidByText := true, laidKinds := [.data], laidTests := true, laidLooks := .later }
def HooksRunUptoCardSaid : Prop := Claim7.holds Tryd.pinned (.plain (OpenSpec.upto hooksRunSpec)) hooksRunUptoCard

/-- THE SECOND FORM's CARD OF 'scrimlaw19.HooksWords'. -/
def hooksWordsUptoCard : Claim7 := { stood := { row := hooksWordsUptoRow, standIns := [], harness := (true, "1d42005f8d4617b53e5e5f72b7c16f05a0a91caf5119b4d2a2c5b65eda45066f"), looks := false }, kinds := [], alts := [], laidByText := true, laidKinds := [.data], laidTests := true, laidLooks := .later }
def HooksWordsUptoCardSaid : Prop := Claim7.holds Tryd.pinned (.plain (OpenSpec.upto hooksWordsSpec)) hooksWordsUptoCard

/-- THE SECOND FORM's CARD OF 'scrimlaw19.HooksApart'. -/
def hooksApartUptoCard : Claim7 := { stood := { row := hooksApartUptoRow, standIns := [], harness := (true, "1d42005f8d4617b53e5e5f72b7c16f05a0a91caf5119b4d2a2c5b65eda45066f"), looks := false }, kinds := [], alts := [], laidByText := true, laidKinds := [.data], laidTests := true, laidLooks := .later }
def HooksApartUptoCardSaid : Prop := Claim7.holds Tryd.pinned (.plain (OpenSpec.upto hooksApartSpec)) hooksApartUptoCard

/-- THE SECOND FORM's CARD OF 'scrimlaw19.HooksLogs'. -/
def hooksLogsUptoCard : Claim7 := { stood := { row := hooksLogsUptoRow, standIns := [], harness := (true, "1d42005f8d4617b53e5e5f72b7c16f05a0a91caf5119b4d2a2c5b65eda45066f"), looks := false }, kinds := [], alts := [], laidByText := true, laidKinds := [.data, .data, .data, .data], laidTests := true, laidLooks := .later }
def HooksLogsUptoCardSaid : Prop := Claim7.holds Tryd.pinned (.plain (OpenSpec.upto hooksLogsSpec)) hooksLogsUptoCard

/-- THE SECOND FORM's CARD OF 'scrimlaw04.PropsSame'. -/
def propsSameUptoCard : Claim7 := { stood := { row := propsSameUptoRow, standIns := [], harness := (true, "1d42005f8d4617b53e5e5f72b7c16f05a0a91caf5119b4d2a2c5b65eda45066f"), looks := false }, kinds := [], alts := [], laidByText := true, laidKinds := [.data, .data, .data], laidTests := true, laidLooks := .later }
def PropsSameUptoCardSaid : Prop := Claim7.holds Tryd.pinned (.plain (OpenSpec.upto propsSameSpec)) propsSameUptoCard

/-- THE SECOND FORM's CARD OF 'scrimlaw04.PropsMaps'. -/
def propsMapsUptoCard : Claim7 := { stood := { row := propsMapsUptoRow, standIns := [], harness := (true, "1d42005f8d4617b53e5e5f72b7c16f05a0a91caf5119b4d2a2c5b65eda45066f"), looks := false }, kinds := [], alts := [], laidByText := true, laidKinds := [.data, .data, .data], laidTests := true, laidLooks := .later }
def PropsMapsUptoCardSaid : Prop := Claim7.holds Tryd.pinned (.plain (OpenSpec.upto propsMapsSpec)) propsMapsUptoCard

/-- THE SECOND FORM's CARD OF 'scrimlaw04.PropsTurns'. -/
def propsTurnsUptoCard : Claim7 := { stood := { row := propsTurnsUptoRow, standIns := [], harness := (true, "1d42005f8d4617b53e5e5f72b7c16f05a0a91caf5119b4d2a2c5b65eda45066f"), looks := false }, kinds := [], alts := [], laidByText := true, laidKinds := [.data, .data, .data], laidTests := true, laidLooks := .later }
def PropsTurnsUptoCardSaid : Prop := Claim7.holds Tryd.pinned (.plain (OpenSpec.upto propsTurnsSpec)) propsTurnsUptoCard
end Rows
end Go.Proofs.YteoedhkppmbkoaaDoor
