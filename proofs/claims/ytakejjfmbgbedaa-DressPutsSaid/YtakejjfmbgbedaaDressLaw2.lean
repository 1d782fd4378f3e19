/- Layer 20: from the form's arguments to the laws of what is put, and hidden. -/
import Derived.Test.YtakejjfmbgbedaaLaw20
import Derived.Test.YtakejjfmbgbedaaFlatArg
import Derived.Test.YtakejjfmbgbedaaDressLaw
namespace Go.Proofs.Ytakejjfmbgbedaa
open Go.RowKit
set_option maxRecDepth 100000
attribute [local irreducible] Go.Code.wpIn Go.wpListIn Go.Calls Gives Go.Exit.then Go.Exit.inBlock Done ObxE

theorem walk_DressPuts (W : World) (vs : List Value) (h : Args Try.prog W [28, 30] vs) : Calls Try.prog 3 vs.toArray W (Ret fun v w => v = .bool true ∧ St W [] w) := by
  obtain ⟨v1, v2, rfl, ha, hb⟩ := args2 h
  obtain ⟨x, rfl, hx⟩ := arg_flat ha
  obtain ⟨k, m, dx, dy, rfl, _⟩ := arg_look hb
  exact puts20_any x k m dx dy W hx
end Go.Proofs.Ytakejjfmbgbedaa
