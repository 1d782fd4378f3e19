/- Layer 3's reference: lists of texts, each once. -/
import Derived.Test.YtakejjfmbgbedaaClasses
namespace Go.Proofs.Ytakejjfmbgbedaa
open Go.RowKit
set_option maxRecDepth 100000
attribute [local irreducible] Go.Code.wpIn Go.wpListIn Go.Calls Gives Go.Exit.then Go.Exit.inBlock Done ObxE

open Classical in
theorem clnC_mem (l : List ByteArray) : ∀ n, n ≤ l.length → ∀ c, c ∈ clnC (l.take n) ↔ c ∈ l.take n := by
  intro n
  induction n with
  | zero => intro _ c; simp [clnC]
  | succ n ih =>
    intro hn c
    have hx : l[n]? = some l[n] := List.getElem?_eq_getElem (by omega)
    rw [take_snocC hx, clnC_snoc]
    have ih' := ih (by omega)
    unfold addC
    split
    · rename_i hm
      rw [ih', List.mem_append, List.mem_singleton]
      rw [ih'] at hm
      constructor
      · exact .inl
      · rintro (h | rfl)
        · exact h
        · exact hm
    · rw [List.mem_append, List.mem_append, ih']

open Classical in
theorem has03_any (l : List ByteArray) (c : ByteArray) (v : Value) (w0 : World) (hv : SlT l v w0) (hl : l.length ≤ 100000) :
    Calls Try.prog 56 #[v, .string c] w0 (Ret fun v w => v = .bool (decide (c ∈ l)) ∧ St w0 [] w) := by
  refine enter Try.func56 rfl Try.ntmps56 rfl (fun a hk => ?_); have hS := St.refl w0
  (repeat' (first | (show wpListIn _ _ _ _ _ (_ :: _) _ _; first | (refine st hk ?_; clear hk a; intro a hk) | (refine st_skip hk ?_; clear hk a; intro a hk) | (refine s_skip0 hk ?_; clear hk a; intro a hk) | (first | refine st_lss hk ?_ ?_ | refine st_leq hk ?_ ?_ | refine st_gtr hk ?_ ?_ | refine st_geq hk ?_ ?_ | refine st_eqi hk ?_ ?_ | refine st_nei hk ?_ ?_ | refine st_eqS hk ?_ ?_ | refine st_neS hk ?_ ?_ | refine st_cmpS hk ?_ ?_ | refine st_eqs hk ?_ ?_ | refine st_nes hk ?_ ?_) <;> (intro hp; clear hk a; intro a hk) | (first | refine st_box hk hS ?_ | refine st_alloc hk hS ?_); clear hk hS a; intro w b hS a hk | (first | refine st_store hk hS ?_ | refine st_stI hk hS ?_ | refine st_stB hk hS ?_ | refine st_stS hk hS ?_); clear hk hS a; intro w hS a hk | (first | refine st_bs1I hk hS ?_ | refine st_bs1S hk hS ?_ | refine st_app1 hk hS ?_ | refine st_appE hk hS ?_); clear hk hS a; intro w v hS a hk | fail) | refine wpIn_seq ?_ | refine wpIn_block ?_ | refine wpIn_region_lit ?_ | refine q_then ?_ | refine q_thenE ?_ | refine q_thenR ?_ | refine q_inN ?_ | refine q_inR ?_ | refine q_inE ?_ | refine q_inO ?_ | refine wpIn_skip ?_ | refine wpIn_ret ?_ | refine wpIn_exit ?_ | (refine s_end hk ?_; clear hk a; intro a hk) | refine c_true hk ?_ | refine c_false hk ?_ | fail))
  replace hk := Kn.kp [1, 7, 8, 9] hk
  refine wp_for l.length (fun i _ => [(9, .int .i64 (i : Int))]) (fun _ _ => []) (fun i _ => c ∉ l.take i) () hk (by repeat (first | exact trivial | refine ⟨rfl, ?_⟩)) hS.sb (by simp) ?_
  clear hk hS a
  rintro i - a w hi hk hS hF
  have hv1 := hS.rdT hv
  by_cases hil : i < l.length
  · obtain ⟨x, hx⟩ : ∃ x, l[i]? = some x := ⟨_, List.getElem?_eq_getElem hil⟩
    (repeat' (first | (show wpListIn _ _ _ _ _ (_ :: _) _ _; first | (refine st hk ?_; clear hk a; intro a hk) | (refine st_skip hk ?_; clear hk a; intro a hk) | (refine s_skip0 hk ?_; clear hk a; intro a hk) | (first | refine st_lss hk ?_ ?_ | refine st_leq hk ?_ ?_ | refine st_gtr hk ?_ ?_ | refine st_geq hk ?_ ?_ | refine st_eqi hk ?_ ?_ | refine st_nei hk ?_ ?_ | refine st_eqS hk ?_ ?_ | refine st_neS hk ?_ ?_ | refine st_cmpS hk ?_ ?_ | refine st_eqs hk ?_ ?_ | refine st_nes hk ?_ ?_) <;> (intro hp; clear hk a; intro a hk) | (first | refine st_box hk hS ?_ | refine st_alloc hk hS ?_); clear hk hS a; intro w b hS a hk | (first | refine st_store hk hS ?_ | refine st_stI hk hS ?_ | refine st_stB hk hS ?_ | refine st_stS hk hS ?_); clear hk hS a; intro w hS a hk | (first | refine st_bs1I hk hS ?_ | refine st_bs1S hk hS ?_ | refine st_app1 hk hS ?_ | refine st_appE hk hS ?_); clear hk hS a; intro w v hS a hk | fail) | refine wpIn_seq ?_ | refine wpIn_block ?_ | refine wpIn_region_lit ?_ | refine q_then ?_ | refine q_thenE ?_ | refine q_thenR ?_ | refine q_inN ?_ | refine q_inR ?_ | refine q_inE ?_ | refine q_inO ?_ | refine wpIn_skip ?_ | refine wpIn_ret ?_ | refine wpIn_exit ?_ | (refine s_end hk ?_; clear hk a; intro a hk) | refine c_true hk ?_ | refine c_false hk ?_ | fail))
    · have e : x = c := by assumption
      refine done1 hk (h := ⟨?_, hS.nil⟩)
      rw [decide_eq_true]
      rw [← e]; exact List.mem_of_getElem? hx
    · have e : ¬ x = c := by assumption
      exact ⟨hil, (), hk.sd, hS.sb, by rw [take_snocC hx, List.mem_append, List.mem_singleton]; rintro (h | h); exact hF h; exact e h.symm⟩
  · have : i = l.length := by omega
    subst this
    rw [List.take_length] at hF
    (repeat' (first | (show wpListIn _ _ _ _ _ (_ :: _) _ _; first | (refine st hk ?_; clear hk a; intro a hk) | (refine st_skip hk ?_; clear hk a; intro a hk) | (refine s_skip0 hk ?_; clear hk a; intro a hk) | (first | refine st_lss hk ?_ ?_ | refine st_leq hk ?_ ?_ | refine st_gtr hk ?_ ?_ | refine st_geq hk ?_ ?_ | refine st_eqi hk ?_ ?_ | refine st_nei hk ?_ ?_ | refine st_eqS hk ?_ ?_ | refine st_neS hk ?_ ?_ | refine st_cmpS hk ?_ ?_ | refine st_eqs hk ?_ ?_ | refine st_nes hk ?_ ?_) <;> (intro hp; clear hk a; intro a hk) | (first | refine st_box hk hS ?_ | refine st_alloc hk hS ?_); clear hk hS a; intro w b hS a hk | (first | refine st_store hk hS ?_ | refine st_stI hk hS ?_ | refine st_stB hk hS ?_ | refine st_stS hk hS ?_); clear hk hS a; intro w hS a hk | (first | refine st_bs1I hk hS ?_ | refine st_bs1S hk hS ?_ | refine st_app1 hk hS ?_ | refine st_appE hk hS ?_); clear hk hS a; intro w v hS a hk | fail) | refine wpIn_seq ?_ | refine wpIn_block ?_ | refine wpIn_region_lit ?_ | refine q_then ?_ | refine q_thenE ?_ | refine q_thenR ?_ | refine q_inN ?_ | refine q_inR ?_ | refine q_inE ?_ | refine q_inO ?_ | refine wpIn_skip ?_ | refine wpIn_ret ?_ | refine wpIn_exit ?_ | (refine s_end hk ?_; clear hk a; intro a hk) | refine c_true hk ?_ | refine c_false hk ?_ | fail))
    exact done1 hk (h := ⟨by rw [decide_eq_false hF], hS.nil⟩)

open Classical in
theorem clean03_any (l : List ByteArray) (v : Value) (w0 : World) (hv : SlT l v w0) (hl : l.length ≤ 900) :
    Calls Try.prog 37 #[v] w0 (Ret fun v w => St w0 [OwT 9 (clnC l) v] w) := by
  refine enter Try.func37 rfl Try.ntmps37 rfl (fun a hk => ?_); have hS := St.refl w0
  (repeat' (first | (show wpListIn _ _ _ _ _ (_ :: _) _ _; first | (refine st hk ?_; clear hk a; intro a hk) | (refine st_skip hk ?_; clear hk a; intro a hk) | (refine s_skip0 hk ?_; clear hk a; intro a hk) | (first | refine st_lss hk ?_ ?_ | refine st_leq hk ?_ ?_ | refine st_gtr hk ?_ ?_ | refine st_geq hk ?_ ?_ | refine st_eqi hk ?_ ?_ | refine st_nei hk ?_ ?_ | refine st_eqS hk ?_ ?_ | refine st_neS hk ?_ ?_ | refine st_cmpS hk ?_ ?_ | refine st_eqs hk ?_ ?_ | refine st_nes hk ?_ ?_) <;> (intro hp; clear hk a; intro a hk) | (first | refine st_box hk hS ?_ | refine st_alloc hk hS ?_); clear hk hS a; intro w b hS a hk | (first | refine st_store hk hS ?_ | refine st_stI hk hS ?_ | refine st_stB hk hS ?_ | refine st_stS hk hS ?_); clear hk hS a; intro w hS a hk | (first | refine st_bs1I hk hS ?_ | refine st_bs1S hk hS ?_ | refine st_app1 hk hS ?_ | refine st_appE hk hS ?_); clear hk hS a; intro w v hS a hk | fail) | refine wpIn_seq ?_ | refine wpIn_block ?_ | refine wpIn_region_lit ?_ | refine q_then ?_ | refine q_thenE ?_ | refine q_thenR ?_ | refine q_inN ?_ | refine q_inR ?_ | refine q_inE ?_ | refine q_inO ?_ | refine wpIn_skip ?_ | refine wpIn_ret ?_ | refine wpIn_exit ?_ | (refine s_end hk ?_; clear hk a; intro a hk) | refine c_true hk ?_ | refine c_false hk ?_ | fail))
  refine sg hk (g_bs0 ByteArray hS ?_ (hT := eT rfl) (hE := zT rfl)); clear hk hS a; intro w v0 hS a hk
  (repeat' (first | (show wpListIn _ _ _ _ _ (_ :: _) _ _; first | (refine st hk ?_; clear hk a; intro a hk) | (refine st_skip hk ?_; clear hk a; intro a hk) | (refine s_skip0 hk ?_; clear hk a; intro a hk) | (first | refine st_lss hk ?_ ?_ | refine st_leq hk ?_ ?_ | refine st_gtr hk ?_ ?_ | refine st_geq hk ?_ ?_ | refine st_eqi hk ?_ ?_ | refine st_nei hk ?_ ?_ | refine st_eqS hk ?_ ?_ | refine st_neS hk ?_ ?_ | refine st_cmpS hk ?_ ?_ | refine st_eqs hk ?_ ?_ | refine st_nes hk ?_ ?_) <;> (intro hp; clear hk a; intro a hk) | (first | refine st_box hk hS ?_ | refine st_alloc hk hS ?_); clear hk hS a; intro w b hS a hk | (first | refine st_store hk hS ?_ | refine st_stI hk hS ?_ | refine st_stB hk hS ?_ | refine st_stS hk hS ?_); clear hk hS a; intro w hS a hk | (first | refine st_bs1I hk hS ?_ | refine st_bs1S hk hS ?_ | refine st_app1 hk hS ?_ | refine st_appE hk hS ?_); clear hk hS a; intro w v hS a hk | fail) | refine wpIn_seq ?_ | refine wpIn_block ?_ | refine wpIn_region_lit ?_ | refine q_then ?_ | refine q_thenE ?_ | refine q_thenR ?_ | refine q_inN ?_ | refine q_inR ?_ | refine q_inE ?_ | refine q_inO ?_ | refine wpIn_skip ?_ | refine wpIn_ret ?_ | refine wpIn_exit ?_ | (refine s_end hk ?_; clear hk a; intro a hk) | refine c_true hk ?_ | refine c_false hk ?_ | fail))
  replace hk := Kn.kp [0, 3, 7, 8, 9] hk
  refine wp_for l.length (fun i v => [(3, v), (9, .int .i64 (i : Int))]) (fun i v => [OwT 9 (clnC (l.take i)) v]) (fun _ _ => True) v0 hk (by repeat (first | exact trivial | refine ⟨rfl, ?_⟩)) hS.sb trivial ?_
  clear hk hS a
  rintro i vo a w hi hk hS -
  have hcl := clnC_len l i
  have hmem := clnC_mem l i hi
  by_cases hil : i < l.length
  · obtain ⟨x, hx⟩ : ∃ x, l[i]? = some x := ⟨_, List.getElem?_eq_getElem hil⟩
    have hv1 := hS.rdT hv
    (repeat' (first | (show wpListIn _ _ _ _ _ (_ :: _) _ _; first | (refine st hk ?_; clear hk a; intro a hk) | (refine st_skip hk ?_; clear hk a; intro a hk) | (refine s_skip0 hk ?_; clear hk a; intro a hk) | (first | refine st_lss hk ?_ ?_ | refine st_leq hk ?_ ?_ | refine st_gtr hk ?_ ?_ | refine st_geq hk ?_ ?_ | refine st_eqi hk ?_ ?_ | refine st_nei hk ?_ ?_ | refine st_eqS hk ?_ ?_ | refine st_neS hk ?_ ?_ | refine st_cmpS hk ?_ ?_ | refine st_eqs hk ?_ ?_ | refine st_nes hk ?_ ?_) <;> (intro hp; clear hk a; intro a hk) | (first | refine st_box hk hS ?_ | refine st_alloc hk hS ?_); clear hk hS a; intro w b hS a hk | (first | refine st_store hk hS ?_ | refine st_stI hk hS ?_ | refine st_stB hk hS ?_ | refine st_stS hk hS ?_); clear hk hS a; intro w hS a hk | (first | refine st_bs1I hk hS ?_ | refine st_bs1S hk hS ?_ | refine st_app1 hk hS ?_ | refine st_appE hk hS ?_); clear hk hS a; intro w v hS a hk | fail) | refine wpIn_seq ?_ | refine wpIn_block ?_ | refine wpIn_region_lit ?_ | refine q_then ?_ | refine q_thenE ?_ | refine q_thenR ?_ | refine q_inN ?_ | refine q_inR ?_ | refine q_inE ?_ | refine q_inO ?_ | refine wpIn_skip ?_ | refine wpIn_ret ?_ | refine wpIn_exit ?_ | (refine s_end hk ?_; clear hk a; intro a hk) | refine c_true hk ?_ | refine c_false hk ?_ | fail))
    refine sg hk (g_partT (j := i) hk ?_ (ht := eT rfl) (hs := (by first | exact St.rdT hS (by assumption) | exact OwT.rd (hS.rd (A := OwT _ _ _) (by (repeat (first | exact At.here | apply At.there)))) | assumption)) (hE := zT rfl) (hj := by omega)); clear hk a; intro vp hvp a hk
    (repeat' (first | (show wpListIn _ _ _ _ _ (_ :: _) _ _; first | (refine st hk ?_; clear hk a; intro a hk) | (refine st_skip hk ?_; clear hk a; intro a hk) | (refine s_skip0 hk ?_; clear hk a; intro a hk) | (first | refine st_lss hk ?_ ?_ | refine st_leq hk ?_ ?_ | refine st_gtr hk ?_ ?_ | refine st_geq hk ?_ ?_ | refine st_eqi hk ?_ ?_ | refine st_nei hk ?_ ?_ | refine st_eqS hk ?_ ?_ | refine st_neS hk ?_ ?_ | refine st_cmpS hk ?_ ?_ | refine st_eqs hk ?_ ?_ | refine st_nes hk ?_ ?_) <;> (intro hp; clear hk a; intro a hk) | (first | refine st_box hk hS ?_ | refine st_alloc hk hS ?_); clear hk hS a; intro w b hS a hk | (first | refine st_store hk hS ?_ | refine st_stI hk hS ?_ | refine st_stB hk hS ?_ | refine st_stS hk hS ?_); clear hk hS a; intro w hS a hk | (first | refine st_bs1I hk hS ?_ | refine st_bs1S hk hS ?_ | refine st_app1 hk hS ?_ | refine st_appE hk hS ?_); clear hk hS a; intro w v hS a hk | fail) | refine wpIn_seq ?_ | refine wpIn_block ?_ | refine wpIn_region_lit ?_ | refine q_then ?_ | refine q_thenE ?_ | refine q_thenR ?_ | refine q_inN ?_ | refine q_inR ?_ | refine q_inE ?_ | refine q_inO ?_ | refine wpIn_skip ?_ | refine wpIn_ret ?_ | refine wpIn_exit ?_ | (refine s_end hk ?_; clear hk a; intro a hk) | refine c_true hk ?_ | refine c_false hk ?_ | fail))
    refine sg hk (g_callO hk (hf := by kernel_rfl) (hc := has03_any (l.take i) x vp _ (hvp _ (hS.rdT hv)) (by rw [List.length_take]; omega)) (h := ?_)); clear hk a; rintro _ w ⟨rfl, hS1⟩ a hk; replace hS := hS.call0 hS1; clear hS1
    by_cases hin : x ∈ l.take i
    · have hst : clnC (l.take (i + 1)) = clnC (l.take i) := by rw [take_snocC hx, clnC_snoc]; unfold addC; rw [if_pos ((hmem x).2 hin)]
      rw [decide_eq_true hin] at hk
      (repeat' (first | (show wpListIn _ _ _ _ _ (_ :: _) _ _; first | (refine st hk ?_; clear hk a; intro a hk) | (refine st_skip hk ?_; clear hk a; intro a hk) | (refine s_skip0 hk ?_; clear hk a; intro a hk) | (first | refine st_lss hk ?_ ?_ | refine st_leq hk ?_ ?_ | refine st_gtr hk ?_ ?_ | refine st_geq hk ?_ ?_ | refine st_eqi hk ?_ ?_ | refine st_nei hk ?_ ?_ | refine st_eqS hk ?_ ?_ | refine st_neS hk ?_ ?_ | refine st_cmpS hk ?_ ?_ | refine st_eqs hk ?_ ?_ | refine st_nes hk ?_ ?_) <;> (intro hp; clear hk a; intro a hk) | (first | refine st_box hk hS ?_ | refine st_alloc hk hS ?_); clear hk hS a; intro w b hS a hk | (first | refine st_store hk hS ?_ | refine st_stI hk hS ?_ | refine st_stB hk hS ?_ | refine st_stS hk hS ?_); clear hk hS a; intro w hS a hk | (first | refine st_bs1I hk hS ?_ | refine st_bs1S hk hS ?_ | refine st_app1 hk hS ?_ | refine st_appE hk hS ?_); clear hk hS a; intro w v hS a hk | fail) | refine wpIn_seq ?_ | refine wpIn_block ?_ | refine wpIn_region_lit ?_ | refine q_then ?_ | refine q_thenE ?_ | refine q_thenR ?_ | refine q_inN ?_ | refine q_inR ?_ | refine q_inE ?_ | refine q_inO ?_ | refine wpIn_skip ?_ | refine wpIn_ret ?_ | refine wpIn_exit ?_ | (refine s_end hk ?_; clear hk a; intro a hk) | refine c_true hk ?_ | refine c_false hk ?_ | fail))
      rw [← hst] at hS
      exact ⟨hil, _, hk.sd, hS.sb, trivial⟩
    · have hst : clnC (l.take (i + 1)) = clnC (l.take i) ++ [x] := by rw [take_snocC hx, clnC_snoc]; unfold addC; rw [if_neg (fun h => hin ((hmem x).1 h))]
      rw [decide_eq_false hin] at hk
      (repeat' (first | (show wpListIn _ _ _ _ _ (_ :: _) _ _; first | (refine st hk ?_; clear hk a; intro a hk) | (refine st_skip hk ?_; clear hk a; intro a hk) | (refine s_skip0 hk ?_; clear hk a; intro a hk) | (first | refine st_lss hk ?_ ?_ | refine st_leq hk ?_ ?_ | refine st_gtr hk ?_ ?_ | refine st_geq hk ?_ ?_ | refine st_eqi hk ?_ ?_ | refine st_nei hk ?_ ?_ | refine st_eqS hk ?_ ?_ | refine st_neS hk ?_ ?_ | refine st_cmpS hk ?_ ?_ | refine st_eqs hk ?_ ?_ | refine st_nes hk ?_ ?_) <;> (intro hp; clear hk a; intro a hk) | (first | refine st_box hk hS ?_ | refine st_alloc hk hS ?_); clear hk hS a; intro w b hS a hk | (first | refine st_store hk hS ?_ | refine st_stI hk hS ?_ | refine st_stB hk hS ?_ | refine st_stS hk hS ?_); clear hk hS a; intro w hS a hk | (first | refine st_bs1I hk hS ?_ | refine st_bs1S hk hS ?_ | refine st_app1 hk hS ?_ | refine st_appE hk hS ?_); clear hk hS a; intro w v hS a hk | fail) | refine wpIn_seq ?_ | refine wpIn_block ?_ | refine wpIn_region_lit ?_ | refine q_then ?_ | refine q_thenE ?_ | refine q_thenR ?_ | refine q_inN ?_ | refine q_inR ?_ | refine q_inE ?_ | refine q_inO ?_ | refine wpIn_skip ?_ | refine wpIn_ret ?_ | refine wpIn_exit ?_ | (refine s_end hk ?_; clear hk a; intro a hk) | refine c_true hk ?_ | refine c_false hk ?_ | fail))
      rw [← hst] at hS
      exact ⟨hil, _, hk.sd, hS.sb, trivial⟩
  · have : i = l.length := by omega
    subst this
    rw [List.take_length] at hS
    (repeat' (first | (show wpListIn _ _ _ _ _ (_ :: _) _ _; first | (refine st hk ?_; clear hk a; intro a hk) | (refine st_skip hk ?_; clear hk a; intro a hk) | (refine s_skip0 hk ?_; clear hk a; intro a hk) | (first | refine st_lss hk ?_ ?_ | refine st_leq hk ?_ ?_ | refine st_gtr hk ?_ ?_ | refine st_geq hk ?_ ?_ | refine st_eqi hk ?_ ?_ | refine st_nei hk ?_ ?_ | refine st_eqS hk ?_ ?_ | refine st_neS hk ?_ ?_ | refine st_cmpS hk ?_ ?_ | refine st_eqs hk ?_ ?_ | refine st_nes hk ?_ ?_) <;> (intro hp; clear hk a; intro a hk) | (first | refine st_box hk hS ?_ | refine st_alloc hk hS ?_); clear hk hS a; intro w b hS a hk | (first | refine st_store hk hS ?_ | refine st_stI hk hS ?_ | refine st_stB hk hS ?_ | refine st_stS hk hS ?_); clear hk hS a; intro w hS a hk | (first | refine st_bs1I hk hS ?_ | refine st_bs1S hk hS ?_ | refine st_app1 hk hS ?_ | refine st_appE hk hS ?_); clear hk hS a; intro w v hS a hk | fail) | refine wpIn_seq ?_ | refine wpIn_block ?_ | refine wpIn_region_lit ?_ | refine q_then ?_ | refine q_thenE ?_ | refine q_thenR ?_ | refine q_inN ?_ | refine q_inR ?_ | refine q_inE ?_ | refine q_inO ?_ | refine wpIn_skip ?_ | refine wpIn_ret ?_ | refine wpIn_exit ?_ | (refine s_end hk ?_; clear hk a; intro a hk) | refine c_true hk ?_ | refine c_false hk ?_ | fail))
    exact done1 hk (h := hS.sb)
set_option maxHeartbeats 1000000 in
theorem same03c_any (xs ys : List ByteArray) (vx vy : Value) (w0 : World) (hx : SlT xs vx w0) (hy : SlT ys vy w0) (hl : xs.length ≤ 1000) :
    Calls Try.prog 19 #[vx, vy] w0 (Ret fun v w => v = .bool (decide (xs = ys)) ∧ St w0 [] w) := by
  refine enter Try.func19 rfl Try.ntmps19 rfl (fun a hk => ?_); have hS := St.refl w0
  (repeat' (first | (show wpListIn _ _ _ _ _ (_ :: _) _ _; first | (refine st hk ?_; clear hk a; intro a hk) | (refine st_skip hk ?_; clear hk a; intro a hk) | (refine s_skip0 hk ?_; clear hk a; intro a hk) | (first | refine st_lss hk ?_ ?_ | refine st_leq hk ?_ ?_ | refine st_gtr hk ?_ ?_ | refine st_geq hk ?_ ?_ | refine st_eqi hk ?_ ?_ | refine st_nei hk ?_ ?_ | refine st_eqS hk ?_ ?_ | refine st_neS hk ?_ ?_ | refine st_cmpS hk ?_ ?_ | refine st_eqs hk ?_ ?_ | refine st_nes hk ?_ ?_) <;> (intro hp; clear hk a; intro a hk) | (first | refine st_box hk hS ?_ | refine st_alloc hk hS ?_); clear hk hS a; intro w b hS a hk | (first | refine st_store hk hS ?_ | refine st_stI hk hS ?_ | refine st_stB hk hS ?_ | refine st_stS hk hS ?_); clear hk hS a; intro w hS a hk | (first | refine st_bs1I hk hS ?_ | refine st_bs1S hk hS ?_ | refine st_app1 hk hS ?_ | refine st_appE hk hS ?_); clear hk hS a; intro w v hS a hk | fail) | refine wpIn_seq ?_ | refine wpIn_block ?_ | refine wpIn_region_lit ?_ | refine q_then ?_ | refine q_thenE ?_ | refine q_thenR ?_ | refine q_inN ?_ | refine q_inR ?_ | refine q_inE ?_ | refine q_inO ?_ | refine wpIn_skip ?_ | refine wpIn_ret ?_ | refine wpIn_exit ?_ | (refine s_end hk ?_; clear hk a; intro a hk) | refine c_true hk ?_ | refine c_false hk ?_ | fail))
  · replace hk := Kn.kp [0, 1, 12, 13] hk
    refine wp_for xs.length (fun i _ => [(13, .int .i64 (i : Int))]) (fun _ _ => []) (fun i _ => ∀ j, j < i → xs[j]? = ys[j]?) () hk (by repeat (first | exact trivial | refine ⟨rfl, ?_⟩)) hS (fun j hj => by omega) ?_
    clear hk hS a
    rintro i - a w hi hk hS hF
    by_cases hil : i < xs.length
    · (repeat' (first | (show wpListIn _ _ _ _ _ (_ :: _) _ _; first | (refine st hk ?_; clear hk a; intro a hk) | (refine st_skip hk ?_; clear hk a; intro a hk) | (refine s_skip0 hk ?_; clear hk a; intro a hk) | (first | refine st_lss hk ?_ ?_ | refine st_leq hk ?_ ?_ | refine st_gtr hk ?_ ?_ | refine st_geq hk ?_ ?_ | refine st_eqi hk ?_ ?_ | refine st_nei hk ?_ ?_ | refine st_eqS hk ?_ ?_ | refine st_neS hk ?_ ?_ | refine st_cmpS hk ?_ ?_ | refine st_eqs hk ?_ ?_ | refine st_nes hk ?_ ?_) <;> (intro hp; clear hk a; intro a hk) | (first | refine st_box hk hS ?_ | refine st_alloc hk hS ?_); clear hk hS a; intro w b hS a hk | (first | refine st_store hk hS ?_ | refine st_stI hk hS ?_ | refine st_stB hk hS ?_ | refine st_stS hk hS ?_); clear hk hS a; intro w hS a hk | (first | refine st_bs1I hk hS ?_ | refine st_bs1S hk hS ?_ | refine st_app1 hk hS ?_ | refine st_appE hk hS ?_); clear hk hS a; intro w v hS a hk | fail) | refine wpIn_seq ?_ | refine wpIn_block ?_ | refine wpIn_region_lit ?_ | refine q_then ?_ | refine q_thenE ?_ | refine q_thenR ?_ | refine q_inN ?_ | refine q_inR ?_ | refine q_inE ?_ | refine q_inO ?_ | refine wpIn_skip ?_ | refine wpIn_ret ?_ | refine wpIn_exit ?_ | (refine s_end hk ?_; clear hk a; intro a hk) | refine c_true hk ?_ | refine c_false hk ?_ | fail))
      refine wp_drawn 8 mixed (by kernel_rfl) hk hS ?_; clear hk hS a
      (repeat' (first | (show ObxE _ _ _ _ _ _ _ _ _ (_ :: _) _ _ _; first | refine ob_v ?_ | refine obe_skip ?_ | (first | refine ob_lss ?_ ?_ | refine ob_leq ?_ ?_ | refine ob_gtr ?_ ?_ | refine ob_geq ?_ ?_ | refine ob_eqi ?_ ?_ | refine ob_nei ?_ ?_ | refine ob_eqS ?_ ?_ | refine ob_neS ?_ ?_ | refine ob_cmpS ?_ ?_ | refine ob_eqs ?_ ?_ | refine ob_nes ?_ ?_) <;> intro hp | fail) | fail))
      refine obe_nil ⟨rfl, ?_⟩; intro us a w hk hS
      (repeat' (first | (show wpListIn _ _ _ _ _ (_ :: _) _ _; first | (refine st hk ?_; clear hk a; intro a hk) | (refine st_skip hk ?_; clear hk a; intro a hk) | (refine s_skip0 hk ?_; clear hk a; intro a hk) | (first | refine st_lss hk ?_ ?_ | refine st_leq hk ?_ ?_ | refine st_gtr hk ?_ ?_ | refine st_geq hk ?_ ?_ | refine st_eqi hk ?_ ?_ | refine st_nei hk ?_ ?_ | refine st_eqS hk ?_ ?_ | refine st_neS hk ?_ ?_ | refine st_cmpS hk ?_ ?_ | refine st_eqs hk ?_ ?_ | refine st_nes hk ?_ ?_) <;> (intro hp; clear hk a; intro a hk) | (first | refine st_box hk hS ?_ | refine st_alloc hk hS ?_); clear hk hS a; intro w b hS a hk | (first | refine st_store hk hS ?_ | refine st_stI hk hS ?_ | refine st_stB hk hS ?_ | refine st_stS hk hS ?_); clear hk hS a; intro w hS a hk | (first | refine st_bs1I hk hS ?_ | refine st_bs1S hk hS ?_ | refine st_app1 hk hS ?_ | refine st_appE hk hS ?_); clear hk hS a; intro w v hS a hk | fail) | refine wpIn_seq ?_ | refine wpIn_block ?_ | refine wpIn_region_lit ?_ | refine q_then ?_ | refine q_thenE ?_ | refine q_thenR ?_ | refine q_inN ?_ | refine q_inR ?_ | refine q_inE ?_ | refine q_inO ?_ | refine wpIn_skip ?_ | refine wpIn_ret ?_ | refine wpIn_exit ?_ | (refine s_end hk ?_; clear hk a; intro a hk) | refine c_true hk ?_ | refine c_false hk ?_ | fail))
      · have he : xs[i]'hil = ys[i]'(by omega) := by assumption
        refine ⟨hil, (), hk.sd, hS, fun j hj => ?_⟩
        by_cases e : j = i
        · subst e
          rw [List.getElem?_eq_getElem hil, List.getElem?_eq_getElem (by omega), he]
        · exact hF j (by omega)
      · have he : ¬ xs[i]'hil = ys[i]'(by omega) := by assumption
        refine done1 hk (h := ⟨?_, hS.nil⟩)
        rw [decide_eq_false]
        intro e
        subst e
        exact he rfl
    · (repeat' (first | (show wpListIn _ _ _ _ _ (_ :: _) _ _; first | (refine st hk ?_; clear hk a; intro a hk) | (refine st_skip hk ?_; clear hk a; intro a hk) | (refine s_skip0 hk ?_; clear hk a; intro a hk) | (first | refine st_lss hk ?_ ?_ | refine st_leq hk ?_ ?_ | refine st_gtr hk ?_ ?_ | refine st_geq hk ?_ ?_ | refine st_eqi hk ?_ ?_ | refine st_nei hk ?_ ?_ | refine st_eqS hk ?_ ?_ | refine st_neS hk ?_ ?_ | refine st_cmpS hk ?_ ?_ | refine st_eqs hk ?_ ?_ | refine st_nes hk ?_ ?_) <;> (intro hp; clear hk a; intro a hk) | (first | refine st_box hk hS ?_ | refine st_alloc hk hS ?_); clear hk hS a; intro w b hS a hk | (first | refine st_store hk hS ?_ | refine st_stI hk hS ?_ | refine st_stB hk hS ?_ | refine st_stS hk hS ?_); clear hk hS a; intro w hS a hk | (first | refine st_bs1I hk hS ?_ | refine st_bs1S hk hS ?_ | refine st_app1 hk hS ?_ | refine st_appE hk hS ?_); clear hk hS a; intro w v hS a hk | fail) | refine wpIn_seq ?_ | refine wpIn_block ?_ | refine wpIn_region_lit ?_ | refine q_then ?_ | refine q_thenE ?_ | refine q_thenR ?_ | refine q_inN ?_ | refine q_inR ?_ | refine q_inE ?_ | refine q_inO ?_ | refine wpIn_skip ?_ | refine wpIn_ret ?_ | refine wpIn_exit ?_ | (refine s_end hk ?_; clear hk a; intro a hk) | refine c_true hk ?_ | refine c_false hk ?_ | fail))
      refine done1 hk (h := ⟨?_, hS.nil⟩)
      rw [decide_eq_true]
      apply List.ext_getElem?
      intro j
      by_cases hj : j < i
      · exact hF j hj
      · rw [List.getElem?_eq_none (by omega), List.getElem?_eq_none (by omega)]
  · refine done1 hk (h := ⟨?_, hS.nil⟩)
    rw [decide_eq_false]
    intro e
    subst e
    have : ¬ ((xs.length : Nat) : Int) = ((xs.length : Nat) : Int) := by assumption
    exact this rfl

def few03 (l : List ByteArray) (n : Nat) : List ByteArray := (l.take n).map (fun c => cutF c 20)
theorem few03_len (l : List ByteArray) (n : Nat) : (few03 l n).length = min n l.length := by simp [few03]
theorem few03_snoc {l : List ByteArray} {i : Nat} {x : ByteArray} (h : l[i]? = some x) : few03 l (i + 1) = few03 l i ++ [cutF x 20] := by simp [few03, take_snocC h]

set_option maxHeartbeats 1000000 in
theorem few03_any (l : List ByteArray) (n : Nat) (hn : n ≤ 1000) (v : Value) (w0 : World) (hv : SlT l v w0) : Calls Try.prog 50 #[v, .int .i64 (n : Int)] w0
    (Ret fun v w => St w0 [OwT 9 (few03 l n) v] w) := by
  refine enter Try.func50 rfl Try.ntmps50 rfl (fun a hk => ?_); have hS := St.refl w0
  (repeat' (first | (show wpListIn _ _ _ _ _ (_ :: _) _ _; first | (refine st hk ?_; clear hk a; intro a hk) | (refine st_skip hk ?_; clear hk a; intro a hk) | (refine s_skip0 hk ?_; clear hk a; intro a hk) | (first | refine st_lss hk ?_ ?_ | refine st_leq hk ?_ ?_ | refine st_gtr hk ?_ ?_ | refine st_geq hk ?_ ?_ | refine st_eqi hk ?_ ?_ | refine st_nei hk ?_ ?_ | refine st_eqS hk ?_ ?_ | refine st_neS hk ?_ ?_ | refine st_cmpS hk ?_ ?_ | refine st_eqs hk ?_ ?_ | refine st_nes hk ?_ ?_) <;> (intro hp; clear hk a; intro a hk) | (first | refine st_box hk hS ?_ | refine st_alloc hk hS ?_); clear hk hS a; intro w b hS a hk | (first | refine st_store hk hS ?_ | refine st_stI hk hS ?_ | refine st_stB hk hS ?_ | refine st_stS hk hS ?_); clear hk hS a; intro w hS a hk | (first | refine st_bs1I hk hS ?_ | refine st_bs1S hk hS ?_ | refine st_app1 hk hS ?_ | refine st_appE hk hS ?_); clear hk hS a; intro w v hS a hk | fail) | refine wpIn_seq ?_ | refine wpIn_block ?_ | refine wpIn_region_lit ?_ | refine q_then ?_ | refine q_thenE ?_ | refine q_thenR ?_ | refine q_inN ?_ | refine q_inR ?_ | refine q_inE ?_ | refine q_inO ?_ | refine wpIn_skip ?_ | refine wpIn_ret ?_ | refine wpIn_exit ?_ | (refine s_end hk ?_; clear hk a; intro a hk) | refine c_true hk ?_ | refine c_false hk ?_ | fail))
  replace hS := hS.nilT 9 ByteArray
  replace hk := Kn.kp [0, 1, 5, 6] hk
  refine wp_for n (fun i v => [(5, v), (6, .int .i64 (i : Int))]) (fun i v => [OwT 9 (few03 l i) v]) (fun i _ => i ≤ l.length) (.slice none 0 0) hk (by repeat (first | exact trivial | refine ⟨rfl, ?_⟩)) hS (by omega) ?_
  clear hk hS a
  rintro i vo a w hi hk hS hF
  have hm : l.length ≤ maxLen := hv.len_le
  simp only [maxLen] at hm
  have hlen := few03_len l i
  by_cases hll : i < l.length
  · by_cases hlt : i < n
    · obtain ⟨x, hx⟩ : ∃ x, l[i]? = some x := ⟨_, List.getElem?_eq_getElem hll⟩
      have hst := few03_snoc hx
      (repeat' (first | (show wpListIn _ _ _ _ _ (_ :: _) _ _; first | (refine st hk ?_; clear hk a; intro a hk) | (refine st_skip hk ?_; clear hk a; intro a hk) | (refine s_skip0 hk ?_; clear hk a; intro a hk) | (first | refine st_lss hk ?_ ?_ | refine st_leq hk ?_ ?_ | refine st_gtr hk ?_ ?_ | refine st_geq hk ?_ ?_ | refine st_eqi hk ?_ ?_ | refine st_nei hk ?_ ?_ | refine st_eqS hk ?_ ?_ | refine st_neS hk ?_ ?_ | refine st_cmpS hk ?_ ?_ | refine st_eqs hk ?_ ?_ | refine st_nes hk ?_ ?_) <;> (intro hp; clear hk a; intro a hk) | (first | refine st_box hk hS ?_ | refine st_alloc hk hS ?_); clear hk hS a; intro w b hS a hk | (first | refine st_store hk hS ?_ | refine st_stI hk hS ?_ | refine st_stB hk hS ?_ | refine st_stS hk hS ?_); clear hk hS a; intro w hS a hk | (first | refine st_bs1I hk hS ?_ | refine st_bs1S hk hS ?_ | refine st_app1 hk hS ?_ | refine st_appE hk hS ?_); clear hk hS a; intro w v hS a hk | fail) | refine wpIn_seq ?_ | refine wpIn_block ?_ | refine wpIn_region_lit ?_ | refine q_then ?_ | refine q_thenE ?_ | refine q_thenR ?_ | refine q_inN ?_ | refine q_inR ?_ | refine q_inE ?_ | refine q_inO ?_ | refine wpIn_skip ?_ | refine wpIn_ret ?_ | refine wpIn_exit ?_ | (refine s_end hk ?_; clear hk a; intro a hk) | refine c_true hk ?_ | refine c_false hk ?_ | fail))
      refine sg hk (g_callO hk (hf := by kernel_rfl) (hc := cut_any _ 20 _) (h := ?_)); clear hk a; rintro _ w ⟨rfl, hS1⟩ a hk; replace hS := hS.call0 hS1; clear hS1
      (repeat' (first | (show wpListIn _ _ _ _ _ (_ :: _) _ _; first | (refine st hk ?_; clear hk a; intro a hk) | (refine st_skip hk ?_; clear hk a; intro a hk) | (refine s_skip0 hk ?_; clear hk a; intro a hk) | (first | refine st_lss hk ?_ ?_ | refine st_leq hk ?_ ?_ | refine st_gtr hk ?_ ?_ | refine st_geq hk ?_ ?_ | refine st_eqi hk ?_ ?_ | refine st_nei hk ?_ ?_ | refine st_eqS hk ?_ ?_ | refine st_neS hk ?_ ?_ | refine st_cmpS hk ?_ ?_ | refine st_eqs hk ?_ ?_ | refine st_nes hk ?_ ?_) <;> (intro hp; clear hk a; intro a hk) | (first | refine st_box hk hS ?_ | refine st_alloc hk hS ?_); clear hk hS a; intro w b hS a hk | (first | refine st_store hk hS ?_ | refine st_stI hk hS ?_ | refine st_stB hk hS ?_ | refine st_stS hk hS ?_); clear hk hS a; intro w hS a hk | (first | refine st_bs1I hk hS ?_ | refine st_bs1S hk hS ?_ | refine st_app1 hk hS ?_ | refine st_appE hk hS ?_); clear hk hS a; intro w v hS a hk | fail) | refine wpIn_seq ?_ | refine wpIn_block ?_ | refine wpIn_region_lit ?_ | refine q_then ?_ | refine q_thenE ?_ | refine q_thenR ?_ | refine q_inN ?_ | refine q_inR ?_ | refine q_inE ?_ | refine q_inO ?_ | refine wpIn_skip ?_ | refine wpIn_ret ?_ | refine wpIn_exit ?_ | (refine s_end hk ?_; clear hk a; intro a hk) | refine c_true hk ?_ | refine c_false hk ?_ | fail))
      rw [← hst] at hS
      exact ⟨hlt, _, hk.sd, hS.sb, by omega⟩
    · have hin : i = n := by omega
      subst hin
      (repeat' (first | (show wpListIn _ _ _ _ _ (_ :: _) _ _; first | (refine st hk ?_; clear hk a; intro a hk) | (refine st_skip hk ?_; clear hk a; intro a hk) | (refine s_skip0 hk ?_; clear hk a; intro a hk) | (first | refine st_lss hk ?_ ?_ | refine st_leq hk ?_ ?_ | refine st_gtr hk ?_ ?_ | refine st_geq hk ?_ ?_ | refine st_eqi hk ?_ ?_ | refine st_nei hk ?_ ?_ | refine st_eqS hk ?_ ?_ | refine st_neS hk ?_ ?_ | refine st_cmpS hk ?_ ?_ | refine st_eqs hk ?_ ?_ | refine st_nes hk ?_ ?_) <;> (intro hp; clear hk a; intro a hk) | (first | refine st_box hk hS ?_ | refine st_alloc hk hS ?_); clear hk hS a; intro w b hS a hk | (first | refine st_store hk hS ?_ | refine st_stI hk hS ?_ | refine st_stB hk hS ?_ | refine st_stS hk hS ?_); clear hk hS a; intro w hS a hk | (first | refine st_bs1I hk hS ?_ | refine st_bs1S hk hS ?_ | refine st_app1 hk hS ?_ | refine st_appE hk hS ?_); clear hk hS a; intro w v hS a hk | fail) | refine wpIn_seq ?_ | refine wpIn_block ?_ | refine wpIn_region_lit ?_ | refine q_then ?_ | refine q_thenE ?_ | refine q_thenR ?_ | refine q_inN ?_ | refine q_inR ?_ | refine q_inE ?_ | refine q_inO ?_ | refine wpIn_skip ?_ | refine wpIn_ret ?_ | refine wpIn_exit ?_ | (refine s_end hk ?_; clear hk a; intro a hk) | refine c_true hk ?_ | refine c_false hk ?_ | fail))
      exact done1 hk (h := hS)
  · have e : few03 l i = few03 l n := by simp only [few03]; rw [List.take_of_length_le (by omega), List.take_of_length_le (by omega)]
    rw [e] at hS
    (repeat' (first | (show wpListIn _ _ _ _ _ (_ :: _) _ _; first | (refine st hk ?_; clear hk a; intro a hk) | (refine st_skip hk ?_; clear hk a; intro a hk) | (refine s_skip0 hk ?_; clear hk a; intro a hk) | (first | refine st_lss hk ?_ ?_ | refine st_leq hk ?_ ?_ | refine st_gtr hk ?_ ?_ | refine st_geq hk ?_ ?_ | refine st_eqi hk ?_ ?_ | refine st_nei hk ?_ ?_ | refine st_eqS hk ?_ ?_ | refine st_neS hk ?_ ?_ | refine st_cmpS hk ?_ ?_ | refine st_eqs hk ?_ ?_ | refine st_nes hk ?_ ?_) <;> (intro hp; clear hk a; intro a hk) | (first | refine st_box hk hS ?_ | refine st_alloc hk hS ?_); clear hk hS a; intro w b hS a hk | (first | refine st_store hk hS ?_ | refine st_stI hk hS ?_ | refine st_stB hk hS ?_ | refine st_stS hk hS ?_); clear hk hS a; intro w hS a hk | (first | refine st_bs1I hk hS ?_ | refine st_bs1S hk hS ?_ | refine st_app1 hk hS ?_ | refine st_appE hk hS ?_); clear hk hS a; intro w v hS a hk | fail) | refine wpIn_seq ?_ | refine wpIn_block ?_ | refine wpIn_region_lit ?_ | refine q_then ?_ | refine q_thenE ?_ | refine q_thenR ?_ | refine q_inN ?_ | refine q_inR ?_ | refine q_inE ?_ | refine q_inO ?_ | refine wpIn_skip ?_ | refine wpIn_ret ?_ | refine wpIn_exit ?_ | (refine s_end hk ?_; clear hk a; intro a hk) | refine c_true hk ?_ | refine c_false hk ?_ | fail))
    exact done1 hk (h := hS)
end Go.Proofs.Ytakejjfmbgbedaa
