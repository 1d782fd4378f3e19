/- Layer 20: from the form's arguments to the law of looks apart. -/
import Derived.Test.YtakejjfmbgbedaaDressApart
import Derived.Test.YtakejjfmbgbedaaDressLaw
namespace Go.Proofs.Ytakejjfmbgbedaa
open Go.RowKit
theorem walk_DressApart (W : World) (vs : List Value) (h : Args Try.prog W [30, 30] vs) : Calls Try.prog 5 vs.toArray W (Ret fun v w => v = .bool true ∧ St W [] w) := by
  obtain ⟨_, _, rfl, ha, hb⟩ := args2 h
  obtain ⟨k, m, x, y, rfl, _⟩ := arg_look ha
  obtain ⟨k', m', x', y', rfl, _⟩ := arg_look hb
  exact apart_any k m x y k' m' x' y' W
end Go.Proofs.Ytakejjfmbgbedaa
