/- Layer 19: the hooks' names, and rows of hooks. -/
import Derived.Test.YteoedhkppmbkoaaDoorHooks
namespace Go.Proofs.YteoedhkppmbkoaaDoor
open Go.RowKit
set_option maxRecDepth 100000
attribute [local irreducible] Go.Code.wp Go.wpList Go.Calls Gives Go.Exit.then Go.Exit.inBlock Done ObxE

def hn : List ByteArray := [⟨#[98, 101, 102, 111, 114, 101, 45, 101, 110, 116, 101, 114]⟩, ⟨#[101, 110, 116, 101, 114]⟩, ⟨#[97, 102, 116, 101, 114, 45, 101, 110, 116, 101, 114]⟩, ⟨#[101, 110, 116, 101, 114, 45, 99, 97, 110, 99, 101, 108, 108, 101, 100]⟩, ⟨#[98, 101, 102, 111, 114, 101, 45, 108, 101, 97, 118, 101]⟩, ⟨#[108, 101, 97, 118, 101]⟩, ⟨#[97, 102, 116, 101, 114, 45, 108, 101, 97, 118, 101]⟩, ⟨#[108, 101, 97, 118, 101, 45, 99, 97, 110, 99, 101, 108, 108, 101, 100]⟩]
def nameF (h : Int) : ByteArray := if h = 1 then hn[0] else if h = 2 then hn[1] else if h = 3 then hn[2] else if h = 4 then hn[3] else if h = 5 then hn[4] else if h = 6 then hn[5] else if h = 7 then hn[6] else if h = 8 then hn[7] else ⟨#[]⟩
/-- What the text lays of the names. -/
def NamesIn (W : World) : Prop := ∃ t, (pts 0 (hn.map Value.string) t).rd W
theorem NamesIn.mono {w w' : World} (h : NamesIn w) (hb : Below w.heap.size w w') : NamesIn w' := let ⟨t, ht⟩ := h; ⟨t, ht.mono hb⟩
theorem St.names {w0 w : World} {L : List HP} (hS : St w0 L w) (h : NamesIn w0) : NamesIn w := h.mono hS.below

set_option maxHeartbeats 1000000 in
theorem name_any (h : Int) (w0 : World) (hN : NamesIn w0) : Calls Tryd.prog 14 #[.int .i64 h] w0 (Ret fun v w => v = .string (nameF h) ∧ St w0 [] w) := by
  obtain ⟨tn, hN⟩ := hN
  refine enter Tryd.func14 rfl Tryd.ntmps14 rfl (fun a hk => ?_); have hS := St.refl w0
  (repeat' (first | (show wpList _ _ _ (_ :: _) _ _; first | (refine st hk ?_; clear hk a; intro a hk) | (refine st_skip hk ?_; clear hk a; intro a hk) | (refine s_skip0 hk ?_; clear hk a; intro a hk) | (first | refine st_lss hk ?_ ?_ | refine st_leq hk ?_ ?_ | refine st_gtr hk ?_ ?_ | refine st_geq hk ?_ ?_ | refine st_eqi hk ?_ ?_ | refine st_nei hk ?_ ?_ | refine st_eqS hk ?_ ?_ | refine st_neS hk ?_ ?_ | refine st_eqs hk ?_ ?_ | refine st_nes hk ?_ ?_) <;> (intro hp; clear hk a; intro a hk) | (first | refine st_box hk hS ?_ | refine st_alloc hk hS ?_); clear hk hS a; intro w b hS a hk | (first | refine st_store hk hS ?_ | refine st_stI hk hS ?_ | refine st_stB hk hS ?_ | refine st_stS hk hS ?_); clear hk hS a; intro w hS a hk | (first | refine st_bs1I hk hS ?_ | refine st_bs1S hk hS ?_ | refine st_app1 hk hS ?_ | refine st_appE hk hS ?_); clear hk hS a; intro w v hS a hk | fail) | refine wp_seq ?_ | refine wp_block ?_ | refine wp_region_lit ?_ | refine q_then ?_ | refine q_thenE ?_ | refine q_thenR ?_ | refine q_inN ?_ | refine q_inR ?_ | refine q_inE ?_ | refine q_inO ?_ | refine wp_skip ?_ | refine wp_ret ?_ | refine wp_exit ?_ | (refine s_end hk ?_; clear hk a; intro a hk) | refine c_true hk ?_ | refine c_false hk ?_ | fail))
  · refine done1 hk (h := ⟨?_, hS.nil⟩)
    congr 1; unfold nameF; (repeat' split) <;> first | omega | rfl
  · refine done1 hk (h := ⟨?_, hS.nil⟩)
    congr 1; unfold nameF; (repeat' split) <;> first | omega | rfl
  · have hc : h = 1 ∨ h = 2 ∨ h = 3 ∨ h = 4 ∨ h = 5 ∨ h = 6 ∨ h = 7 ∨ h = 8 := by omega
    rcases hc with rfl | rfl | rfl | rfl | rfl | rfl | rfl | rfl
    all_goals (repeat' (first | (show wpList _ _ _ (_ :: _) _ _; first | (refine st hk ?_; clear hk a; intro a hk) | (refine st_skip hk ?_; clear hk a; intro a hk) | (refine s_skip0 hk ?_; clear hk a; intro a hk) | (first | refine st_lss hk ?_ ?_ | refine st_leq hk ?_ ?_ | refine st_gtr hk ?_ ?_ | refine st_geq hk ?_ ?_ | refine st_eqi hk ?_ ?_ | refine st_nei hk ?_ ?_ | refine st_eqS hk ?_ ?_ | refine st_neS hk ?_ ?_ | refine st_eqs hk ?_ ?_ | refine st_nes hk ?_ ?_) <;> (intro hp; clear hk a; intro a hk) | (first | refine st_box hk hS ?_ | refine st_alloc hk hS ?_); clear hk hS a; intro w b hS a hk | (first | refine st_store hk hS ?_ | refine st_stI hk hS ?_ | refine st_stB hk hS ?_ | refine st_stS hk hS ?_); clear hk hS a; intro w hS a hk | (first | refine st_bs1I hk hS ?_ | refine st_bs1S hk hS ?_ | refine st_app1 hk hS ?_ | refine st_appE hk hS ?_); clear hk hS a; intro w v hS a hk | fail) | refine wp_seq ?_ | refine wp_block ?_ | refine wp_region_lit ?_ | refine q_then ?_ | refine q_thenE ?_ | refine q_thenR ?_ | refine q_inN ?_ | refine q_inR ?_ | refine q_inE ?_ | refine q_inO ?_ | refine wp_skip ?_ | refine wp_ret ?_ | refine wp_exit ?_ | (refine s_end hk ?_; clear hk a; intro a hk) | refine c_true hk ?_ | refine c_false hk ?_ | fail))
    all_goals exact done1 hk (h := ⟨rfl, hS.nil⟩)

theorem refName_any (h : Int) (w0 : World) : Calls Tryd.prog 15 #[.int .i64 h] w0 (Ret fun v w => v = .string (nameF h) ∧ St w0 [] w) := by
  refine enter Tryd.func15 rfl Tryd.ntmps15 rfl (fun a hk => ?_); have hS := St.refl w0
  (repeat' (first | (show wpList _ _ _ (_ :: _) _ _; first | (refine st hk ?_; clear hk a; intro a hk) | (refine st_skip hk ?_; clear hk a; intro a hk) | (refine s_skip0 hk ?_; clear hk a; intro a hk) | (first | refine st_lss hk ?_ ?_ | refine st_leq hk ?_ ?_ | refine st_gtr hk ?_ ?_ | refine st_geq hk ?_ ?_ | refine st_eqi hk ?_ ?_ | refine st_nei hk ?_ ?_ | refine st_eqS hk ?_ ?_ | refine st_neS hk ?_ ?_ | refine st_eqs hk ?_ ?_ | refine st_nes hk ?_ ?_) <;> (intro hp; clear hk a; intro a hk) | (first | refine st_box hk hS ?_ | refine st_alloc hk hS ?_); clear hk hS a; intro w b hS a hk | (first | refine st_store hk hS ?_ | refine st_stI hk hS ?_ | refine st_stB hk hS ?_ | refine st_stS hk hS ?_); clear hk hS a; intro w hS a hk | (first | refine st_bs1I hk hS ?_ | refine st_bs1S hk hS ?_ | refine st_app1 hk hS ?_ | refine st_appE hk hS ?_); clear hk hS a; intro w v hS a hk | fail) | refine wp_seq ?_ | refine wp_block ?_ | refine wp_region_lit ?_ | refine q_then ?_ | refine q_thenE ?_ | refine q_thenR ?_ | refine q_inN ?_ | refine q_inR ?_ | refine q_inE ?_ | refine q_inO ?_ | refine wp_skip ?_ | refine wp_ret ?_ | refine wp_exit ?_ | (refine s_end hk ?_; clear hk a; intro a hk) | refine c_true hk ?_ | refine c_false hk ?_ | fail))
  all_goals (refine done1 hk (h := ⟨?_, hS.nil⟩); congr 1; unfold nameF; (repeat' split) <;> first | omega | rfl)
end Go.Proofs.YteoedhkppmbkoaaDoor
