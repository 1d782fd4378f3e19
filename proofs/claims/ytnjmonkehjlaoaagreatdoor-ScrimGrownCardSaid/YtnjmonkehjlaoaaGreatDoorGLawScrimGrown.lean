/- For all texts, a view that is written is read, and grown node by node; what was done there, done again elsewhere, comes to the same nodes, as many as the view has. Condition: the package-level variables that the row lists are as the program's text lays them (the card ties them to it). -/
import Derived.Test.YtnjmonkehjlaoaaGreatDoorG24
import Derived.Test.YtnjmonkehjlaoaaGreatDoorRows
import Derived.Test.YtnjmonkehjlaoaaGreatDoorCards
import Derived.Test.YtnjmonkehjlaoaaGreatDoorTie
import Derived.Test.YtnjmonkehjlaoaaGreatDoorG03
import Derived.Lay
import Derived.SevenTiedAt
set_option linter.all false
namespace Go.Proofs.YtnjmonkehjlaoaaGreatDoor.scrimGrown
open Go.ChangeShapes Go.WideShapes Go.ChangeAt Go.RowKit

theorem own : ownKnob Tryz.prog.godebug = none := by kernel_rfl
theorem laidOut : laidOutB Tryz.prog = true := by kernel_rfl

set_option maxRecDepth 100000 in
theorem lifted (os : Os) (started : os.Started) (H : Type) (enc : TypeId × Value → H) :
    ReturnsInHanded {} Tryz.checked os 3 .any (fun w args => (Rows.scrimGrownSpec.pre enc Tryz.prog Tryz.f3 Rows.scrimGrownRow.domain false w args ∧ laidMetH Tryz.prog Rows.scrimGrownRow.laid w) ∧ sizedMet enc Tryz.prog Tryz.f3 (OpenSpec.ofChange Rows.scrimGrownSpec) false w args)
      (Rows.scrimGrownSpec.post enc Tryz.prog Tryz.f3 false true false false) := by
  refine returnsInHanded_of_change_and (C := Tryz.checked) (X := fun w _ => laidMetH Tryz.prog Rows.scrimGrownRow.laid w) (fun _ _ _ hh h => h.of_heap hh) own started (by kernel_rfl) Tryz.func3
    (ChangeSpec.witness_shaped (enc := enc) (C := Tryz.checked) (os := os) (X := fun w _ => laidMetH Tryz.prog Rows.scrimGrownRow.laid w) false (World.laidAll Tryz.prog os Rows.scrimGrownRow.laid) #[.string ⟨#[]⟩] 8 (World.laidAll_os _ _ _)
      (World.shaped_of_ZipB (by kernel_rfl) (by kernel_rfl)) (by kernel_rfl) (by kernel_rfl) (by kernel_rfl)
      (by rw [MakeChecks.laidMetH_plain _ _ _ (by kernel_rfl)]; exact laidMet_laidAll _ (by kernel_rfl) (by kernel_rfl))) ?_
  intro W base args ds gs before hval hW _ _ hL _
  exact law_contractX (fun W => laidMetH Tryz.prog Rows.scrimGrownRow.laid W) (P := Tryz.prog) laidOut (by kernel_rfl) rfl Tryz.underlying4 rfl
    (fun ds h => by match ds, h with | [d0], _ => rfl) (fun W vs hX h => walk_ScrimGrown W vs hX (by rw [Tryz.params3] at h; exact h)) W hL base args ds gs before hval hW

theorem row_holds : Rows.ScrimGrownSaid :=
  OpenClaim.holds_of_wide 3 Tryz.f3 rfl rfl rfl rfl rfl rfl rfl ⟨rfl, rfl, rfl, rfl, rfl⟩ rfl rfl rfl rfl rfl (by kernel_rfl) Tryz.func3 (by kernel_rfl)
    (of_decide_eq_true (by kernel_rfl)) (by unfold Func.isWrapper; first | (rw [if_pos (by decide +kernel)]; kernel_rfl) | (rw [if_neg (by decide +kernel)]; exact ⟨rfl, rfl⟩))
    (fun os started H enc _ => lifted os started H enc)

theorem stand : Tryz.f3.params.all (fun t => !Tryz.prog.wantsStandIn t) = true := by kernel_rfl

theorem proved : Rows.ScrimGrownCardSaid :=
  Claim7.holds_tied_plain_at .later [] [.data, .data, .data] true Rows.scrimGrownCard.stood.harness Rows.scrimGrownCard.stood.looks
    row_holds (fun _ h => by cases h) (by kernel_rfl) (fun _ h => by cases h) scrimGrown_row_tie rfl ⟨rfl, rfl⟩ (by kernel_rfl) rfl
    (fun f fn hf hfn => by
      obtain rfl : f = 3 := Option.some.inj ((show Tryz.prog.funcNamed "scrim/scrimtop.ScrimGrown" = some 3 by kernel_rfl).symm.trans hf) |>.symm
      obtain rfl : fn = Tryz.f3 := (Option.some.inj (Tryz.func3.symm.trans hfn)).symm
      exact ⟨by kernel_rfl, fun j t ht => by
        have := Array.all_eq_true_iff_forall_mem.1 stand t (Array.mem_of_getElem? ht)
        have h2 : Tryz.prog.wantsStandIn t = false := by simpa using this
        exact h2⟩)
    (by kernel_rfl)
end Go.Proofs.YtnjmonkehjlaoaaGreatDoor.scrimGrown
