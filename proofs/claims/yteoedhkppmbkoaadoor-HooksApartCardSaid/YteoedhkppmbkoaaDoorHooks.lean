/- Layer 19: hooks: where they lead, and their names. -/
import Derived.Test.YteoedhkppmbkoaaDoorCard
namespace Go.Proofs.YteoedhkppmbkoaaDoor
open Go.RowKit
set_option maxRecDepth 100000
attribute [local irreducible] Go.Code.wp Go.wpList Go.Calls Gives Go.Exit.then Go.Exit.inBlock Done ObxE

def nextF (s h : Int) : Int := if s = 0 ∧ h = 1 ∨ s = 6 ∧ h = 1 then 1 else if s = 1 ∧ h = 2 then 2 else if s = 2 ∧ h = 3 ∨ s = 2 ∧ h = 4 then 3 else
  if s = 0 ∧ h = 5 ∨ s = 3 ∧ h = 5 then 4 else if s = 4 ∧ h = 6 then 5 else if s = 5 ∧ h = 7 ∨ s = 5 ∧ h = 8 then 6 else -1

set_option maxHeartbeats 1000000 in
theorem next_any (s h : Int) (w0 : World) : Calls Tryd.prog 12 #[.int .i64 s, .int .i64 h] w0 (Ret fun v w => v = .int .i64 (nextF s h) ∧ St w0 [] w) := by
  refine enter Tryd.func12 rfl Tryd.ntmps12 rfl (fun a hk => ?_); have hS := St.refl w0
  (repeat' (first | (show wpList _ _ _ (_ :: _) _ _; first | (refine st hk ?_; clear hk a; intro a hk) | (refine st_skip hk ?_; clear hk a; intro a hk) | (refine s_skip0 hk ?_; clear hk a; intro a hk) | (first | refine st_lss hk ?_ ?_ | refine st_leq hk ?_ ?_ | refine st_gtr hk ?_ ?_ | refine st_geq hk ?_ ?_ | refine st_eqi hk ?_ ?_ | refine st_nei hk ?_ ?_ | refine st_eqS hk ?_ ?_ | refine st_neS hk ?_ ?_ | refine st_eqs hk ?_ ?_ | refine st_nes hk ?_ ?_) <;> (intro hp; clear hk a; intro a hk) | (first | refine st_box hk hS ?_ | refine st_alloc hk hS ?_); clear hk hS a; intro w b hS a hk | (first | refine st_store hk hS ?_ | refine st_stI hk hS ?_ | refine st_stB hk hS ?_ | refine st_stS hk hS ?_); clear hk hS a; intro w hS a hk | (first | refine st_bs1I hk hS ?_ | refine st_bs1S hk hS ?_ | refine st_app1 hk hS ?_ | refine st_appE hk hS ?_); clear hk hS a; intro w v hS a hk | fail) | refine wp_seq ?_ | refine wp_block ?_ | refine wp_region_lit ?_ | refine q_then ?_ | refine q_thenE ?_ | refine q_thenR ?_ | refine q_inN ?_ | refine q_inR ?_ | refine q_inE ?_ | refine q_inO ?_ | refine wp_skip ?_ | refine wp_ret ?_ | refine wp_exit ?_ | (refine s_end hk ?_; clear hk a; intro a hk) | refine c_true hk ?_ | refine c_false hk ?_ | fail))
  all_goals (refine done1 hk (h := ⟨?_, hS.nil⟩); clear hk; simp only [splice, Value.cells, List.set_cons_zero, List.set_cons_succ, eqC, Bool.and_true, Bool.and_eq_true, Bool.and_eq_false_iff, beq_iff_eq, beq_eq_false_iff_ne, ne_eq] at *; congr 1; unfold nextF; (repeat' split) <;> omega)
end Go.Proofs.YteoedhkppmbkoaaDoor
