/- Layer 20: from the form's arguments to the laws. -/
import Derived.Test.YtakejjfmbgbedaaDressLooks
import Derived.Test.YtakejjfmbgbedaaL9
namespace Go.Proofs.Ytakejjfmbgbedaa
open Go.RowKit
set_option maxRecDepth 100000
attribute [local irreducible] Go.Code.wpIn Go.wpListIn Go.Calls Gives Go.Exit.then Go.Exit.inBlock Done ObxE

theorem rdg_look {W : World} {D : Nat} {cs : List Value} (h : Rdg Try.prog W (D + 2) 30 cs) : ∃ X Y Z H, cs = [.int .i64 X, .int .i64 Y, .int .i64 Z, .int .i64 H] ∧ (-9223372036854775808 ≤ Z ∧ Z ≤ 9223372036854775807) ∧ (-9223372036854775808 ≤ H ∧ H ≤ 9223372036854775807) := by
  simp only [Rdg, Try.underlying30, cellsOf_sz (zT (T := 30) rfl)] at h
  obtain ⟨hl, hf⟩ := h
  match cs, hl with
  | [a, b, c, d], _ =>
    simp [Try.underlying3, cellsOf_sz (zT (T := 3) rfl)] at hf
    obtain ⟨⟨n0, h0, _⟩, ⟨n1, h1, _⟩, ⟨n2, h2, b2⟩, ⟨n3, h3, b3⟩⟩ := hf
    exact ⟨n0, n1, n2, n3, by rw [h0, h1, h2, h3], b2, b3⟩

theorem arg_look {W : World} {v : Value} (h : Arg Try.prog W 30 v) : ∃ k m x y, v = .agg #[.int .i64 k, .int .i64 m, .int .i64 x, .int .i64 y] ∧ (-9223372036854775808 ≤ x ∧ x ≤ 9223372036854775807) ∧ (-9223372036854775808 ≤ y ∧ y ≤ 9223372036854775807) := by
  obtain ⟨cs, rfl⟩ := h.2.1 (aT rfl)
  obtain ⟨X, Y, Z, H, hc, b2, b3⟩ := rdg_look h.1
  have : cs = [.int .i64 X, .int .i64 Y, .int .i64 Z, .int .i64 H] := by simpa [Value.cells] using hc
  exact ⟨X, Y, Z, H, by rw [this], b2, b3⟩

theorem walk_DressLooks (W : World) (vs : List Value) (h : Args Try.prog W [30] vs) : Calls Try.prog 4 vs.toArray W (Ret fun v w => v = .bool true ∧ St W [] w) := by
  obtain ⟨_, rfl, ha⟩ := args1 h
  obtain ⟨k, m, x, y, rfl, _⟩ := arg_look ha
  exact looks_any k m x y W
end Go.Proofs.Ytakejjfmbgbedaa
