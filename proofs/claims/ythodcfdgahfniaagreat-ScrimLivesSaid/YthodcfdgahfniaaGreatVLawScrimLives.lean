/- For every list of calls, frames and clock steps, of a kid that is new or stood, what the kid is told is a way of the automaton at each step, and all comes to rest. No condition. -/
import Derived.Test.YthodcfdgahfniaaGreatV19
import Derived.Test.YthodcfdgahfniaaGreatRows
import Derived.Test.YthodcfdgahfniaaGreatV03
set_option linter.all false
namespace Go.Proofs.YthodcfdgahfniaaGreat.scrimLives
open Go.ChangeShapes Go.WideShapes Go.ChangeAt Go.RowKit

theorem own : ownKnob Tryz.prog.godebug = none := by kernel_rfl
theorem laidOut : laidOutB Tryz.prog = true := by kernel_rfl

set_option maxRecDepth 100000 in
theorem lifted (os : Os) (started : os.Started) (H : Type) (enc : TypeId × Value → H) :
    ReturnsInHanded {} Tryz.checked os 3 .any (Rows.scrimLivesSpec.pre6 enc Tryz.prog Tryz.f3 Rows.scrimLivesRow.domain false) (Rows.scrimLivesSpec.post enc Tryz.prog Tryz.f3 false true false false) := by
  refine returnsInHanded_of_change (C := Tryz.checked) own started (by kernel_rfl) Tryz.func3
    (ChangeSpec.witness6 (enc := enc) (C := Tryz.checked) false ⟨#[], #[.agg #[.bool true, .slice none 0 0]], []⟩ 8 (by kernel_rfl) (by kernel_rfl) (by kernel_rfl) (by kernel_rfl)) ?_
  intro W base args ds gs before hval hW _ _
  exact law_contract (P := Tryz.prog) laidOut (by kernel_rfl) rfl Tryz.underlying4 rfl
    (fun ds h => by match ds, h with | [d0], _ => rfl) (fun W vs h => walk_ScrimLives W vs (by rw [Tryz.params3] at h; exact h)) W base args ds gs before hval hW

theorem proved : Rows.ScrimLivesSaid :=
  OpenClaim.holds_of_wide 3 Tryz.f3 rfl rfl rfl rfl rfl rfl rfl ⟨rfl, rfl, rfl, rfl, rfl⟩ rfl rfl rfl rfl rfl (by kernel_rfl) Tryz.func3 (by kernel_rfl)
    (of_decide_eq_true (by kernel_rfl)) (by unfold Func.isWrapper; first | (rw [if_pos (by decide +kernel)]; kernel_rfl) | (rw [if_neg (by decide +kernel)]; exact ⟨rfl, rfl⟩))
    (fun os started H enc _ => lifted os started H enc)
end Go.Proofs.YthodcfdgahfniaaGreat.scrimLives
