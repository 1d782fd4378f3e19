/-
  DERIVED. GIVEN WITH THE SEED: THE CARDS: each row of YtnjmonkehjlaoaaGreatDoorRows.lean that lists a variable, with what it lists TIED to the program's text (the seventh form; the later family's looks); each row that meets fmt, with fmt's text TOLD by the authors' own Lean function (tested against real Go, not proved from fmt's source: count such statements apart). THE CARD IS WHAT COUNTS. Prove the row's statement (the work); the ties are given (YtnjmonkehjlaoaaGreatDoorTie.lean); close each card by the builder's one call (the guide's Derived/Test/ToyasCard.lean, 'card_holds'). Laid BY PROGRAM, IN A SANDBOX (cutbox-door.mjs). By AI agents, Wed Nov 11 2026. No macro, syntax, notation, axiom, sorry.
-/
import Derived.Test.YtnjmonkehjlaoaaGreatDoorRows
import GoSem.ClaimSeven
namespace Go.Proofs.YtnjmonkehjlaoaaGreatDoor
namespace Rows

/-- THE TIED CARD OF 'scrimtop.ScrimGrown'. -/
def scrimGrownCard : Claim7 := { stood := { row := scrimGrownRow, standIns := [], harness := (true, "d516b7da0cf330805ae3b5120aec403650c4e4d316972cfa4e26adb26117313f"), looks := true }, kinds := [], alts := [], laidByText := true, laidKinds := [.data, .data, .data], laidTests := true, laidLooks := .later }
def ScrimGrownCardSaid : Prop := Claim7.holds Tryz.pinned (.plain (OpenSpec.ofChange scrimGrownSpec)) scrimGrownCard

/-- THE SECOND FORM's CARD OF 'scrimtop.ScrimGrown'. -/
def scrimGrownUptoCard : Claim7 := { stood := { row := scrimGrownUptoRow, standIns := [], harness := (true, "d516b7da0cf330805ae3b5120aec403650c4e4d316972cfa4e26adb26117313f"), looks := true }, kinds := [], alts := [], laidByText := true, laidKinds := [.data, .data, .data], laidTests := true, laidLooks := .later }
def ScrimGrownUptoCardSaid : Prop := Claim7.holds Tryz.pinned (.plain (OpenSpec.upto scrimGrownSpec)) scrimGrownUptoCard
end Rows
end Go.Proofs.YtnjmonkehjlaoaaGreatDoor
