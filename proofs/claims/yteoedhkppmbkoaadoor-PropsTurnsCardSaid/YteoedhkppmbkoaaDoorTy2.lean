/- The cells of this translation's plain types, kind by kind: a table that the kernel checks. Printed by a program of the prover's (gen_ty2.py). -/
import Derived.Test.YteoedhkppmbkoaaDoorL8
import Derived.Test.YteoedhkppmbkoaaDoorTy
namespace Go.Proofs.YteoedhkppmbkoaaDoor
def ksTab : List (Nat × List SK) := [(36, [.int .i64, .int .i64, .int .i64, .str]), (37, [.int .i64, .int .i64, .int .i64, .str]), (38, [.int .i64, .int .i64, .int .i64, .str]), (50, [.str, .int .i64]), (51, [.str, .int .i64]), (83, [.bool, .str, .int .i64]), (84, [.bool, .str, .int .i64]), (85, [.bool, .str, .int .i64]), (86, [.bool, .str, .str]), (87, [.bool, .str, .str]), (90, [.int .i64, .int .i64]), (91, [.int .i64, .int .i64]), (95, [.int .i64, .str]), (96, [.int .i64, .str]), (105, [.str, .int .i64]), (107, [.str, .str]), (108, [.str, .str])]
def ksOf (T : Nat) : Option (List SK) := (ksTab.find? (fun p => Nat.beq p.1 T)).map (·.2)
theorem ks_all : ksTab.map (fun p => (flatT Tryd.prog 6 p.1, Tryd.prog.eqGuardType Tryd.prog.depth p.1)) = ksTab.map (fun p => (some p.2, false)) := by kernel_rfl
theorem ks_find {T : Nat} {ks : List SK} (h : ksOf T = some ks) : flatT Tryd.prog 6 T = some ks ∧ Tryd.prog.eqGuardType Tryd.prog.depth T = false := by
  unfold ksOf at h
  simp only [Option.map_eq_some_iff] at h
  obtain ⟨p, hp, rfl⟩ := h
  have hmem := List.mem_of_find?_eq_some hp
  have hb := List.find?_some hp
  have hT : p.1 = T := Nat.eq_of_beq_eq_true hb
  obtain ⟨i, hi⟩ := List.getElem?_of_mem hmem
  have := congrArg (·[i]?) ks_all
  simp only [List.getElem?_map, hi, Option.map_some, Option.some.injEq, Prod.mk.injEq] at this
  rw [← hT]
  exact this
theorem kT {T : Nat} {ks : List SK} (h : ksOf T = some ks) : flatT Tryd.prog 6 T = some ks := (ks_find h).1
theorem gT {T : Nat} {ks : List SK} (h : ksOf T = some ks) : Tryd.prog.eqGuardType Tryd.prog.depth T = false := (ks_find h).2
end Go.Proofs.YteoedhkppmbkoaaDoor
