/- For every sizes of kids, every order they come to stand in, and every way they are laid out: they come there by the fewest moves, and each, moved by its shift, lies where it lay. No condition. -/
import Derived.Test.YtbpkddpkcnlmhaaGreatF19
import Derived.Test.YtbpkddpkcnlmhaaGreatRows
import Derived.Test.YtbpkddpkcnlmhaaGreatF03
set_option linter.all false
namespace Go.Proofs.YtbpkddpkcnlmhaaGreat.scrimFlips
open Go.ChangeShapes Go.WideShapes Go.ChangeAt Go.RowKit

theorem own : ownKnob Tryz.prog.godebug = none := by kernel_rfl
theorem laidOut : laidOutB Tryz.prog = true := by kernel_rfl

set_option maxRecDepth 100000 in
theorem lifted (os : Os) (started : os.Started) (H : Type) (enc : TypeId × Value → H) :
    ReturnsInHanded {} Tryz.checked os 3 .any (Rows.scrimFlipsSpec.pre6 enc Tryz.prog Tryz.f3 Rows.scrimFlipsRow.domain false) (Rows.scrimFlipsSpec.post enc Tryz.prog Tryz.f3 false true false false) := by
  refine returnsInHanded_of_change (C := Tryz.checked) own started (by kernel_rfl) Tryz.func3
    (ChangeSpec.witness6 (enc := enc) (C := Tryz.checked) false ⟨#[], #[.slice none 0 0, .slice none 0 0, .int .i64 0], []⟩ 8 (by kernel_rfl) (by kernel_rfl) (by kernel_rfl) (by kernel_rfl)) ?_
  intro W base args ds gs before hval hW _ _
  exact law_contract (P := Tryz.prog) laidOut (by kernel_rfl) rfl Tryz.underlying4 rfl
    (fun ds h => by match ds, h with | [d0, d1, d2], _ => rfl) (fun W vs h => walk_ScrimFlips W vs (by rw [Tryz.params3] at h; exact h)) W base args ds gs before hval hW

theorem proved : Rows.ScrimFlipsSaid :=
  OpenClaim.holds_of_wide 3 Tryz.f3 rfl rfl rfl rfl rfl rfl rfl ⟨rfl, rfl, rfl, rfl, rfl⟩ rfl rfl rfl rfl rfl (by kernel_rfl) Tryz.func3 (by kernel_rfl)
    (of_decide_eq_true (by kernel_rfl)) (by unfold Func.isWrapper; first | (rw [if_pos (by decide +kernel)]; kernel_rfl) | (rw [if_neg (by decide +kernel)]; exact ⟨rfl, rfl⟩))
    (fun os started H enc _ => lifted os started H enc)
end Go.Proofs.YtbpkddpkcnlmhaaGreat.scrimFlips
