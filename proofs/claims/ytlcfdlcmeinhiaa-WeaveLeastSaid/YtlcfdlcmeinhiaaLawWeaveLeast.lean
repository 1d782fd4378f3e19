/- For every two lists of numbers and any steps, no steps that come to the new list have fewer moves. No condition. -/
import Derived.Test.YtlcfdlcmeinhiaaWeaveLaw
import Derived.Test.YtlcfdlcmeinhiaaRows
import Derived.Test.YtlcfdlcmeinhiaaL9
namespace Go.Proofs.Ytlcfdlcmeinhiaa.weaveLeast
open Go.ChangeShapes Go.WideShapes Go.ChangeAt Go.RowKit

theorem own : ownKnob Try.prog.godebug = none := by kernel_rfl
theorem laidOut : laidOutB Try.prog = true := by kernel_rfl

set_option maxRecDepth 100000 in
theorem lifted (os : Os) (started : os.Started) (H : Type) (enc : TypeId × Value → H) :
    ReturnsInHanded {} Try.checked os 10 .any (Rows.weaveLeastSpec.pre6 enc Try.prog Try.f10 Rows.weaveLeastRow.domain false) (Rows.weaveLeastSpec.post enc Try.prog Try.f10 false true false false) := by
  refine returnsInHanded_of_change (C := Try.checked) own started (by kernel_rfl) Try.func10
    (ChangeSpec.witness6 (enc := enc) (C := Try.checked) false ⟨#[], #[.slice none 0 0, .slice none 0 0, .slice none 0 0], []⟩ 8 (by kernel_rfl) (by kernel_rfl) (by kernel_rfl) (by kernel_rfl)) ?_
  intro W base args ds gs before hval hW _ _
  exact law_contract (P := Try.prog) laidOut (by kernel_rfl) rfl Try.underlying4 rfl
    (fun ds h => by match ds, h with | [d0, d1, d2], _ => rfl) (fun W vs h => walk_WeaveLeast W vs (by rw [Try.params10] at h; exact h)) W base args ds gs before hval hW

theorem proved : Rows.WeaveLeastSaid :=
  OpenClaim.holds_of_wide 10 Try.f10 rfl rfl rfl rfl rfl rfl rfl ⟨rfl, rfl, rfl, rfl, rfl⟩ rfl rfl rfl rfl rfl (by kernel_rfl) Try.func10 (by kernel_rfl)
    (of_decide_eq_true (by kernel_rfl)) (by unfold Func.isWrapper; first | (rw [if_pos (by decide +kernel)]; kernel_rfl) | (rw [if_neg (by decide +kernel)]; exact ⟨rfl, rfl⟩))
    (fun os started H enc _ => lifted os started H enc)
end Go.Proofs.Ytlcfdlcmeinhiaa.weaveLeast
