/- For every log, what was told of one kid, whether all may be, and its text, are the reference's. Condition: the package-level variables that the row lists are as the program's text lays them (the card ties them to it). -/
import Derived.Test.YteoedhkppmbkoaaDoorK12
import Derived.Test.YteoedhkppmbkoaaDoorRows
import Derived.Test.YteoedhkppmbkoaaDoorCards
import Derived.Test.YteoedhkppmbkoaaDoorTie
import Derived.Test.YteoedhkppmbkoaaDoorK05
import Derived.Lay
import Derived.SevenTiedAt
namespace Go.Proofs.YteoedhkppmbkoaaDoor.hooksLogs
open Go.ChangeShapes Go.WideShapes Go.ChangeAt Go.RowKit

theorem own : ownKnob Tryd.prog.godebug = none := by kernel_rfl
theorem laidOut : laidOutB Tryd.prog = true := by kernel_rfl

set_option maxRecDepth 100000 in
theorem lifted (os : Os) (started : os.Started) (H : Type) (enc : TypeId × Value → H) :
    ReturnsInHanded {} Tryd.checked os 7 .any (fun w args => (Rows.hooksLogsSpec.pre enc Tryd.prog Tryd.f7 Rows.hooksLogsRow.domain false w args ∧ laidMetH Tryd.prog Rows.hooksLogsRow.laid w) ∧ sizedMet enc Tryd.prog Tryd.f7 (OpenSpec.ofChange Rows.hooksLogsSpec) false w args)
      (Rows.hooksLogsSpec.post enc Tryd.prog Tryd.f7 false true false false) := by
  refine returnsInHanded_of_change_and (C := Tryd.checked) (X := fun w _ => laidMetH Tryd.prog Rows.hooksLogsRow.laid w) (fun _ _ _ hh h => h.of_heap hh) own started (by kernel_rfl) Tryd.func7
    (ChangeSpec.witness_shaped (enc := enc) (C := Tryd.checked) (os := os) (X := fun w _ => laidMetH Tryd.prog Rows.hooksLogsRow.laid w) false (World.laidAll Tryd.prog os Rows.hooksLogsRow.laid) #[.slice none 0 0, .int .i64 0, .string ⟨#[]⟩] 8 (World.laidAll_os _ _ _)
      (World.shaped_of_ZipB (by kernel_rfl) (by kernel_rfl)) (by kernel_rfl) (by kernel_rfl) (by kernel_rfl)
      (by rw [MakeChecks.laidMetH_plain _ _ _ (by kernel_rfl)]; exact laidMet_laidAll _ (by kernel_rfl) (by kernel_rfl))) ?_
  intro W base args ds gs before hval hW _ _ hL _
  exact law_contractX (fun W => laidMetH Tryd.prog Rows.hooksLogsRow.laid W) (P := Tryd.prog) laidOut (by kernel_rfl) rfl Tryd.underlying4 rfl
    (fun ds h => by match ds, h with | [d0, d1, d2], _ => rfl) (fun W vs hX h => walk_HooksLogs W vs hX (by rw [Tryd.params7] at h; exact h)) W hL base args ds gs before hval hW

theorem row_holds : Rows.HooksLogsSaid :=
  OpenClaim.holds_of_wide 7 Tryd.f7 rfl rfl rfl rfl rfl rfl rfl ⟨rfl, rfl, rfl, rfl, rfl⟩ rfl rfl rfl rfl rfl (by kernel_rfl) Tryd.func7 (by kernel_rfl)
    (of_decide_eq_true (by kernel_rfl)) (by unfold Func.isWrapper; first | (rw [if_pos (by decide +kernel)]; kernel_rfl) | (rw [if_neg (by decide +kernel)]; exact ⟨rfl, rfl⟩))
    (fun os started H enc _ => lifted os started H enc)

theorem stand : Tryd.f7.params.all (fun t => !Tryd.prog.wantsStandIn t) = true := by kernel_rfl

theorem proved : Rows.HooksLogsCardSaid :=
  Claim7.holds_tied_plain_at .later [] [.data, .data, .data, .data] true Rows.hooksLogsCard.stood.harness false
    row_holds (fun _ h => by cases h) (by kernel_rfl) (fun _ h => by cases h) hooksLogs_row_tie rfl ⟨rfl, rfl⟩ (by kernel_rfl) rfl
    (fun f fn hf hfn => by
      obtain rfl : f = 7 := Option.some.inj ((show Tryd.prog.funcNamed "scrim/scrimlaw19.HooksLogs" = some 7 by kernel_rfl).symm.trans hf) |>.symm
      obtain rfl : fn = Tryd.f7 := (Option.some.inj (Tryd.func7.symm.trans hfn)).symm
      exact ⟨by kernel_rfl, fun j t ht => by
        have := Array.all_eq_true_iff_forall_mem.1 stand t (Array.mem_of_getElem? ht)
        have h2 : Tryd.prog.wantsStandIn t = false := by simpa using this
        exact h2⟩)
    (by kernel_rfl)
end Go.Proofs.YteoedhkppmbkoaaDoor.hooksLogs
