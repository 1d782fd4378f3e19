/- Lists of numbers are compared. -/
import Derived.Test.YtbjbpgjbpigjaaaL18
namespace Go.Proofs.Ytbjbpgjbpigjaaa
open Go.RowKit
set_option maxRecDepth 100000
attribute [local irreducible] Go.Code.wp Go.wpList Go.Calls Gives Go.Exit.then Go.Exit.inBlock Done ObxE

theorem numbers_any (xs ys : List Int) (va vb : Value) (w0 : World) (ha : SlT xs va w0) (hb : SlT ys vb w0) : Calls Try.prog 31 #[va, vb] w0 (Ret fun v w => v = .bool (decide (xs = ys)) ∧ St w0 [] w) := by
  refine enter Try.func31 rfl Try.ntmps31 rfl (fun a hk => ?_); have hS := St.refl w0
  by_cases hl : xs.length = ys.length
  · have hl' : ((xs.length : Nat) : Int) = ((ys.length : Nat) : Int) := by omega
    (repeat' (first | (show wpList _ _ _ (_ :: _) _ _; first | (refine st hk ?_; clear hk a; intro a hk) | (refine st_skip hk ?_; clear hk a; intro a hk) | (refine s_skip0 hk ?_; clear hk a; intro a hk) | (first | refine st_lss hk ?_ ?_ | refine st_leq hk ?_ ?_ | refine st_gtr hk ?_ ?_ | refine st_geq hk ?_ ?_ | refine st_eqi hk ?_ ?_ | refine st_nei hk ?_ ?_ | refine st_eqS hk ?_ ?_ | refine st_neS hk ?_ ?_ | refine st_eqs hk ?_ ?_ | refine st_nes hk ?_ ?_) <;> (intro hp; clear hk a; intro a hk) | (first | refine st_box hk hS ?_ | refine st_alloc hk hS ?_); clear hk hS a; intro w b hS a hk | (first | refine st_store hk hS ?_ | refine st_stI hk hS ?_ | refine st_stB hk hS ?_ | refine st_stS hk hS ?_); clear hk hS a; intro w hS a hk | (first | refine st_bs1I hk hS ?_ | refine st_bs1S hk hS ?_ | refine st_app1 hk hS ?_ | refine st_appE hk hS ?_); clear hk hS a; intro w v hS a hk | fail) | refine wp_seq ?_ | refine wp_block ?_ | refine wp_region_lit ?_ | refine q_then ?_ | refine q_thenE ?_ | refine q_thenR ?_ | refine q_inN ?_ | refine q_inR ?_ | refine q_inE ?_ | refine q_inO ?_ | refine wp_skip ?_ | refine wp_ret ?_ | refine wp_exit ?_ | (refine s_end hk ?_; clear hk a; intro a hk) | refine c_true hk ?_ | refine c_false hk ?_ | fail))
    replace hk := Kn.kp [0, 1, 4, 12, 13] hk
    refine wp_for xs.length (fun i _ => [(13, .int .i64 (i : Int))]) (fun _ _ => _) (fun i _ => ∀ j, j < i → xs[j]? = ys[j]?) () hk (by repeat (first | exact trivial | refine ⟨rfl, ?_⟩)) hS (fun j hj => by omega) ?_
    clear hk hS a
    rintro i _ a w hi hk hS hF
    by_cases hlt : i < xs.length
    · have hlt' : (i : Int) < ((xs.length : Nat) : Int) := by omega
      have hly : i < ys.length := by omega
      obtain ⟨x, hx⟩ : ∃ x, xs[i]? = some x := ⟨_, List.getElem?_eq_getElem hlt⟩
      obtain ⟨y, hy⟩ : ∃ y, ys[i]? = some y := ⟨_, List.getElem?_eq_getElem hly⟩
      have hm : (xs.length : Nat) ≤ maxLen := ha.len_le
      simp only [maxLen] at hm
      by_cases hxy : x = y
      · (repeat' (first | (show wpList _ _ _ (_ :: _) _ _; first | (refine st hk ?_; clear hk a; intro a hk) | (refine st_skip hk ?_; clear hk a; intro a hk) | (refine s_skip0 hk ?_; clear hk a; intro a hk) | (first | refine st_lss hk ?_ ?_ | refine st_leq hk ?_ ?_ | refine st_gtr hk ?_ ?_ | refine st_geq hk ?_ ?_ | refine st_eqi hk ?_ ?_ | refine st_nei hk ?_ ?_ | refine st_eqS hk ?_ ?_ | refine st_neS hk ?_ ?_ | refine st_eqs hk ?_ ?_ | refine st_nes hk ?_ ?_) <;> (intro hp; clear hk a; intro a hk) | (first | refine st_box hk hS ?_ | refine st_alloc hk hS ?_); clear hk hS a; intro w b hS a hk | (first | refine st_store hk hS ?_ | refine st_stI hk hS ?_ | refine st_stB hk hS ?_ | refine st_stS hk hS ?_); clear hk hS a; intro w hS a hk | (first | refine st_bs1I hk hS ?_ | refine st_bs1S hk hS ?_ | refine st_app1 hk hS ?_ | refine st_appE hk hS ?_); clear hk hS a; intro w v hS a hk | fail) | refine wp_seq ?_ | refine wp_block ?_ | refine wp_region_lit ?_ | refine q_then ?_ | refine q_thenE ?_ | refine q_thenR ?_ | refine q_inN ?_ | refine q_inR ?_ | refine q_inE ?_ | refine q_inO ?_ | refine wp_skip ?_ | refine wp_ret ?_ | refine wp_exit ?_ | (refine s_end hk ?_; clear hk a; intro a hk) | refine c_true hk ?_ | refine c_false hk ?_ | fail))
        refine wp_drawn 9 mixed (by kernel_rfl) hk hS ?_; clear hk hS a
        (repeat' (first | (show ObxE _ _ _ _ _ _ _ _ (_ :: _) _ _ _; first | refine ob_v ?_ | refine obe_skip ?_ | (first | refine ob_lss ?_ ?_ | refine ob_leq ?_ ?_ | refine ob_gtr ?_ ?_ | refine ob_geq ?_ ?_ | refine ob_eqi ?_ ?_ | refine ob_nei ?_ ?_ | refine ob_eqS ?_ ?_ | refine ob_neS ?_ ?_ | refine ob_eqs ?_ ?_ | refine ob_nes ?_ ?_) <;> intro hp | fail) | fail))
        refine obe_nil ⟨rfl, ?_⟩; intro us a w hk hS
        (repeat' (first | (show wpList _ _ _ (_ :: _) _ _; first | (refine st hk ?_; clear hk a; intro a hk) | (refine st_skip hk ?_; clear hk a; intro a hk) | (refine s_skip0 hk ?_; clear hk a; intro a hk) | (first | refine st_lss hk ?_ ?_ | refine st_leq hk ?_ ?_ | refine st_gtr hk ?_ ?_ | refine st_geq hk ?_ ?_ | refine st_eqi hk ?_ ?_ | refine st_nei hk ?_ ?_ | refine st_eqS hk ?_ ?_ | refine st_neS hk ?_ ?_ | refine st_eqs hk ?_ ?_ | refine st_nes hk ?_ ?_) <;> (intro hp; clear hk a; intro a hk) | (first | refine st_box hk hS ?_ | refine st_alloc hk hS ?_); clear hk hS a; intro w b hS a hk | (first | refine st_store hk hS ?_ | refine st_stI hk hS ?_ | refine st_stB hk hS ?_ | refine st_stS hk hS ?_); clear hk hS a; intro w hS a hk | (first | refine st_bs1I hk hS ?_ | refine st_bs1S hk hS ?_ | refine st_app1 hk hS ?_ | refine st_appE hk hS ?_); clear hk hS a; intro w v hS a hk | fail) | refine wp_seq ?_ | refine wp_block ?_ | refine wp_region_lit ?_ | refine q_then ?_ | refine q_thenE ?_ | refine q_thenR ?_ | refine q_inN ?_ | refine q_inR ?_ | refine q_inE ?_ | refine q_inO ?_ | refine wp_skip ?_ | refine wp_ret ?_ | refine wp_exit ?_ | (refine s_end hk ?_; clear hk a; intro a hk) | refine c_true hk ?_ | refine c_false hk ?_ | fail))
        refine ⟨hlt, (), hk.sd, hS, fun j hj => ?_⟩
        by_cases e : j = i
        · subst e; rw [hx, hy, hxy]
        · exact hF j (by omega)
      · (repeat' (first | (show wpList _ _ _ (_ :: _) _ _; first | (refine st hk ?_; clear hk a; intro a hk) | (refine st_skip hk ?_; clear hk a; intro a hk) | (refine s_skip0 hk ?_; clear hk a; intro a hk) | (first | refine st_lss hk ?_ ?_ | refine st_leq hk ?_ ?_ | refine st_gtr hk ?_ ?_ | refine st_geq hk ?_ ?_ | refine st_eqi hk ?_ ?_ | refine st_nei hk ?_ ?_ | refine st_eqS hk ?_ ?_ | refine st_neS hk ?_ ?_ | refine st_eqs hk ?_ ?_ | refine st_nes hk ?_ ?_) <;> (intro hp; clear hk a; intro a hk) | (first | refine st_box hk hS ?_ | refine st_alloc hk hS ?_); clear hk hS a; intro w b hS a hk | (first | refine st_store hk hS ?_ | refine st_stI hk hS ?_ | refine st_stB hk hS ?_ | refine st_stS hk hS ?_); clear hk hS a; intro w hS a hk | (first | refine st_bs1I hk hS ?_ | refine st_bs1S hk hS ?_ | refine st_app1 hk hS ?_ | refine st_appE hk hS ?_); clear hk hS a; intro w v hS a hk | fail) | refine wp_seq ?_ | refine wp_block ?_ | refine wp_region_lit ?_ | refine q_then ?_ | refine q_thenE ?_ | refine q_thenR ?_ | refine q_inN ?_ | refine q_inR ?_ | refine q_inE ?_ | refine q_inO ?_ | refine wp_skip ?_ | refine wp_ret ?_ | refine wp_exit ?_ | (refine s_end hk ?_; clear hk a; intro a hk) | refine c_true hk ?_ | refine c_false hk ?_ | fail))
        refine wp_drawn 9 mixed (by kernel_rfl) hk hS ?_; clear hk hS a
        (repeat' (first | (show ObxE _ _ _ _ _ _ _ _ (_ :: _) _ _ _; first | refine ob_v ?_ | refine obe_skip ?_ | (first | refine ob_lss ?_ ?_ | refine ob_leq ?_ ?_ | refine ob_gtr ?_ ?_ | refine ob_geq ?_ ?_ | refine ob_eqi ?_ ?_ | refine ob_nei ?_ ?_ | refine ob_eqS ?_ ?_ | refine ob_neS ?_ ?_ | refine ob_eqs ?_ ?_ | refine ob_nes ?_ ?_) <;> intro hp | fail) | fail))
        refine obe_nil ⟨rfl, ?_⟩; intro us a w hk hS
        (repeat' (first | (show wpList _ _ _ (_ :: _) _ _; first | (refine st hk ?_; clear hk a; intro a hk) | (refine st_skip hk ?_; clear hk a; intro a hk) | (refine s_skip0 hk ?_; clear hk a; intro a hk) | (first | refine st_lss hk ?_ ?_ | refine st_leq hk ?_ ?_ | refine st_gtr hk ?_ ?_ | refine st_geq hk ?_ ?_ | refine st_eqi hk ?_ ?_ | refine st_nei hk ?_ ?_ | refine st_eqS hk ?_ ?_ | refine st_neS hk ?_ ?_ | refine st_eqs hk ?_ ?_ | refine st_nes hk ?_ ?_) <;> (intro hp; clear hk a; intro a hk) | (first | refine st_box hk hS ?_ | refine st_alloc hk hS ?_); clear hk hS a; intro w b hS a hk | (first | refine st_store hk hS ?_ | refine st_stI hk hS ?_ | refine st_stB hk hS ?_ | refine st_stS hk hS ?_); clear hk hS a; intro w hS a hk | (first | refine st_bs1I hk hS ?_ | refine st_bs1S hk hS ?_ | refine st_app1 hk hS ?_ | refine st_appE hk hS ?_); clear hk hS a; intro w v hS a hk | fail) | refine wp_seq ?_ | refine wp_block ?_ | refine wp_region_lit ?_ | refine q_then ?_ | refine q_thenE ?_ | refine q_thenR ?_ | refine q_inN ?_ | refine q_inR ?_ | refine q_inE ?_ | refine q_inO ?_ | refine wp_skip ?_ | refine wp_ret ?_ | refine wp_exit ?_ | (refine s_end hk ?_; clear hk a; intro a hk) | refine c_true hk ?_ | refine c_false hk ?_ | fail))
        refine done1 hk (h := ⟨?_, hS.nil⟩)
        rw [decide_eq_false]
        intro e
        subst e
        rw [hx] at hy
        injection hy with hy
        exact hxy hy
    · have hlt' : ¬ (i : Int) < ((xs.length : Nat) : Int) := by omega
      (repeat' (first | (show wpList _ _ _ (_ :: _) _ _; first | (refine st hk ?_; clear hk a; intro a hk) | (refine st_skip hk ?_; clear hk a; intro a hk) | (refine s_skip0 hk ?_; clear hk a; intro a hk) | (first | refine st_lss hk ?_ ?_ | refine st_leq hk ?_ ?_ | refine st_gtr hk ?_ ?_ | refine st_geq hk ?_ ?_ | refine st_eqi hk ?_ ?_ | refine st_nei hk ?_ ?_ | refine st_eqS hk ?_ ?_ | refine st_neS hk ?_ ?_ | refine st_eqs hk ?_ ?_ | refine st_nes hk ?_ ?_) <;> (intro hp; clear hk a; intro a hk) | (first | refine st_box hk hS ?_ | refine st_alloc hk hS ?_); clear hk hS a; intro w b hS a hk | (first | refine st_store hk hS ?_ | refine st_stI hk hS ?_ | refine st_stB hk hS ?_ | refine st_stS hk hS ?_); clear hk hS a; intro w hS a hk | (first | refine st_bs1I hk hS ?_ | refine st_bs1S hk hS ?_ | refine st_app1 hk hS ?_ | refine st_appE hk hS ?_); clear hk hS a; intro w v hS a hk | fail) | refine wp_seq ?_ | refine wp_block ?_ | refine wp_region_lit ?_ | refine q_then ?_ | refine q_thenE ?_ | refine q_thenR ?_ | refine q_inN ?_ | refine q_inR ?_ | refine q_inE ?_ | refine q_inO ?_ | refine wp_skip ?_ | refine wp_ret ?_ | refine wp_exit ?_ | (refine s_end hk ?_; clear hk a; intro a hk) | refine c_true hk ?_ | refine c_false hk ?_ | fail))
      refine done1 hk (h := ⟨?_, hS.nil⟩)
      rw [decide_eq_true]
      apply List.ext_getElem?
      intro j
      by_cases hj : j < i
      · exact hF j hj
      · rw [List.getElem?_eq_none (by omega), List.getElem?_eq_none (by omega)]
  · have hl' : ¬ ((xs.length : Nat) : Int) = ((ys.length : Nat) : Int) := by omega
    (repeat' (first | (show wpList _ _ _ (_ :: _) _ _; first | (refine st hk ?_; clear hk a; intro a hk) | (refine st_skip hk ?_; clear hk a; intro a hk) | (refine s_skip0 hk ?_; clear hk a; intro a hk) | (first | refine st_lss hk ?_ ?_ | refine st_leq hk ?_ ?_ | refine st_gtr hk ?_ ?_ | refine st_geq hk ?_ ?_ | refine st_eqi hk ?_ ?_ | refine st_nei hk ?_ ?_ | refine st_eqS hk ?_ ?_ | refine st_neS hk ?_ ?_ | refine st_eqs hk ?_ ?_ | refine st_nes hk ?_ ?_) <;> (intro hp; clear hk a; intro a hk) | (first | refine st_box hk hS ?_ | refine st_alloc hk hS ?_); clear hk hS a; intro w b hS a hk | (first | refine st_store hk hS ?_ | refine st_stI hk hS ?_ | refine st_stB hk hS ?_ | refine st_stS hk hS ?_); clear hk hS a; intro w hS a hk | (first | refine st_bs1I hk hS ?_ | refine st_bs1S hk hS ?_ | refine st_app1 hk hS ?_ | refine st_appE hk hS ?_); clear hk hS a; intro w v hS a hk | fail) | refine wp_seq ?_ | refine wp_block ?_ | refine wp_region_lit ?_ | refine q_then ?_ | refine q_thenE ?_ | refine q_thenR ?_ | refine q_inN ?_ | refine q_inR ?_ | refine q_inE ?_ | refine q_inO ?_ | refine wp_skip ?_ | refine wp_ret ?_ | refine wp_exit ?_ | (refine s_end hk ?_; clear hk a; intro a hk) | refine c_true hk ?_ | refine c_false hk ?_ | fail))
    refine done1 hk (h := ⟨?_, hS.nil⟩)
    rw [decide_eq_false]
    intro e
    exact hl (by rw [e])
end Go.Proofs.Ytbjbpgjbpigjaaa
