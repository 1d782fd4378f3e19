/- The cells of this translation's plain types, kind by kind: a table that the kernel checks. Printed by a program of the prover's (gen_ty2.py). -/
import Derived.Test.YtakejjfmbgbedaaL8
import Derived.Test.YtakejjfmbgbedaaTy
namespace Go.Proofs.Ytakejjfmbgbedaa
def ksTab : List (Nat × List SK) := [(25, [.int .i64, .int .i64, .int .i64, .int .i64, .bool, .bool]), (26, [.int .i64, .int .i64, .int .i64, .int .i64, .bool, .bool]), (29, [.int .i64, .int .i64, .int .i64, .int .i64]), (30, [.int .i64, .int .i64, .int .i64, .int .i64]), (48, [.int .i64, .int .i64, .int .i64, .int .i64]), (60, [.str, .str]), (61, [.str, .str]), (63, [.int .i64, .int .i64, .int .i64, .int .i64, .bool, .bool]), (71, [.str, .str]), (79, [.str, .int .i64]), (80, [.str, .int .i64]), (86, [.str, .int .i64])]
def ksOf (T : Nat) : Option (List SK) := (ksTab.find? (fun p => Nat.beq p.1 T)).map (·.2)
theorem ks_all : ksTab.map (fun p => (flatT Try.prog 6 p.1, Try.prog.eqGuardType Try.prog.depth p.1)) = ksTab.map (fun p => (some p.2, false)) := by kernel_rfl
theorem ks_find {T : Nat} {ks : List SK} (h : ksOf T = some ks) : flatT Try.prog 6 T = some ks ∧ Try.prog.eqGuardType Try.prog.depth T = false := by
  unfold ksOf at h
  simp only [Option.map_eq_some_iff] at h
  obtain ⟨p, hp, rfl⟩ := h
  have hmem := List.mem_of_find?_eq_some hp
  have hb := List.find?_some hp
  have hT : p.1 = T := Nat.eq_of_beq_eq_true hb
  obtain ⟨i, hi⟩ := List.getElem?_of_mem hmem
  have := congrArg (·[i]?) ks_all
  simp only [List.getElem?_map, hi, Option.map_some, Option.some.injEq, Prod.mk.injEq] at this
  rw [← hT]
  exact this
theorem kT {T : Nat} {ks : List SK} (h : ksOf T = some ks) : flatT Try.prog 6 T = some ks := (ks_find h).1
theorem gT {T : Nat} {ks : List SK} (h : ksOf T = some ks) : Try.prog.eqGuardType Try.prog.depth T = false := (ks_find h).2
end Go.Proofs.Ytakejjfmbgbedaa
