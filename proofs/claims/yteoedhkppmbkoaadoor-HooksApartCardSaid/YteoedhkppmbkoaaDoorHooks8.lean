/- Layer 19: what is told of one kid, and whether a log may be. -/
import Derived.Test.YteoedhkppmbkoaaDoorHooks7
namespace Go.Proofs.YteoedhkppmbkoaaDoor
open Go.RowKit
set_option maxRecDepth 100000
attribute [local irreducible] Go.Code.wp Go.wpList Go.Calls Gives Go.Exit.then Go.Exit.inBlock Done ObxE

def isK (g : Int) (k : ByteArray) (e : Ent) : Bool := decide (e.1 = g) && decide (e.2.2.2 = k)
/-- The hooks of one kid. -/
def hoF (l : List Ent) (g : Int) (k : ByteArray) : List Int := (l.filter (isK g k)).map (fun e => e.2.2.1)
theorem hoF_len (l : List Ent) (g : Int) (k : ByteArray) : (hoF l g k).length ≤ l.length := by
  unfold hoF; rw [List.length_map]; exact List.length_filter_le _ _
theorem hoF_succ {l : List Ent} {i : Nat} {x : Ent} (h : l[i]? = some x) (g : Int) (k : ByteArray) : hoF (l.take (i + 1)) g k = if isK g k x = true then hoF (l.take i) g k ++ [x.2.2.1] else hoF (l.take i) g k := by
  unfold hoF
  rw [take_snoc h, List.filter_append, List.map_append]
  simp only [List.filter_cons, List.filter_nil]
  split <;> simp

set_option maxHeartbeats 1000000 in
theorem of19_any (l : List Ent) (hl : l.length ≤ 1000) (g : Int) (k : ByteArray) (v : Value) (w0 : World) (hv : SlT l v w0) : Calls Tryd.prog 20 #[v, .int .i64 g, .string k] w0
    (Ret fun v w => St w0 [OwT 3 (hoF l g k) v] w) := by
  refine enter Tryd.func20 rfl Tryd.ntmps20 rfl (fun a hk => ?_); have hS := St.refl w0
  (repeat' (first | (show wpList _ _ _ (_ :: _) _ _; first | (refine st hk ?_; clear hk a; intro a hk) | (refine st_skip hk ?_; clear hk a; intro a hk) | (refine s_skip0 hk ?_; clear hk a; intro a hk) | (first | refine st_lss hk ?_ ?_ | refine st_leq hk ?_ ?_ | refine st_gtr hk ?_ ?_ | refine st_geq hk ?_ ?_ | refine st_eqi hk ?_ ?_ | refine st_nei hk ?_ ?_ | refine st_eqS hk ?_ ?_ | refine st_neS hk ?_ ?_ | refine st_eqs hk ?_ ?_ | refine st_nes hk ?_ ?_) <;> (intro hp; clear hk a; intro a hk) | (first | refine st_box hk hS ?_ | refine st_alloc hk hS ?_); clear hk hS a; intro w b hS a hk | (first | refine st_store hk hS ?_ | refine st_stI hk hS ?_ | refine st_stB hk hS ?_ | refine st_stS hk hS ?_); clear hk hS a; intro w hS a hk | (first | refine st_bs1I hk hS ?_ | refine st_bs1S hk hS ?_ | refine st_app1 hk hS ?_ | refine st_appE hk hS ?_); clear hk hS a; intro w v hS a hk | fail) | refine wp_seq ?_ | refine wp_block ?_ | refine wp_region_lit ?_ | refine q_then ?_ | refine q_thenE ?_ | refine q_thenR ?_ | refine q_inN ?_ | refine q_inR ?_ | refine q_inE ?_ | refine q_inO ?_ | refine wp_skip ?_ | refine wp_ret ?_ | refine wp_exit ?_ | (refine s_end hk ?_; clear hk a; intro a hk) | refine c_true hk ?_ | refine c_false hk ?_ | fail))
  replace hS := hS.nilT 3 Int
  replace hk := Kn.kp [1, 2, 7, 10, 11, 12] hk
  refine wp_for l.length (fun i v => [(7, v), (12, .int .i64 (i : Int))]) (fun i v => [OwT 3 (hoF (l.take i) g k) v]) (fun i _ => True) (.slice none 0 0) hk (by repeat (first | exact trivial | refine ⟨rfl, ?_⟩)) hS trivial ?_
  clear hk hS a
  rintro i vo a w hi hk hS -
  have hlen := hoF_len (l.take i) g k
  rw [List.length_take] at hlen
  by_cases hll : i < l.length
  · obtain ⟨⟨g', nd, ho, key⟩, hx⟩ : ∃ x, l[i]? = some x := ⟨_, List.getElem?_eq_getElem hll⟩
    have hs := hoF_succ hx g k
    (repeat' (first | (show wpList _ _ _ (_ :: _) _ _; first | (refine st hk ?_; clear hk a; intro a hk) | (refine st_skip hk ?_; clear hk a; intro a hk) | (refine s_skip0 hk ?_; clear hk a; intro a hk) | (first | refine st_lss hk ?_ ?_ | refine st_leq hk ?_ ?_ | refine st_gtr hk ?_ ?_ | refine st_geq hk ?_ ?_ | refine st_eqi hk ?_ ?_ | refine st_nei hk ?_ ?_ | refine st_eqS hk ?_ ?_ | refine st_neS hk ?_ ?_ | refine st_eqs hk ?_ ?_ | refine st_nes hk ?_ ?_) <;> (intro hp; clear hk a; intro a hk) | (first | refine st_box hk hS ?_ | refine st_alloc hk hS ?_); clear hk hS a; intro w b hS a hk | (first | refine st_store hk hS ?_ | refine st_stI hk hS ?_ | refine st_stB hk hS ?_ | refine st_stS hk hS ?_); clear hk hS a; intro w hS a hk | (first | refine st_bs1I hk hS ?_ | refine st_bs1S hk hS ?_ | refine st_app1 hk hS ?_ | refine st_appE hk hS ?_); clear hk hS a; intro w v hS a hk | fail) | refine wp_seq ?_ | refine wp_block ?_ | refine wp_region_lit ?_ | refine q_then ?_ | refine q_thenE ?_ | refine q_thenR ?_ | refine q_inN ?_ | refine q_inR ?_ | refine q_inE ?_ | refine q_inO ?_ | refine wp_skip ?_ | refine wp_ret ?_ | refine wp_exit ?_ | (refine s_end hk ?_; clear hk a; intro a hk) | refine c_true hk ?_ | refine c_false hk ?_ | fail))
    · rw [if_pos (show isK g k (g', nd, ho, key) = true by simp [isK, *])] at hs
      rw [← hs] at hS
      exact ⟨hll, _, hk.sd, hS.sb, trivial⟩
    · rw [if_neg (show ¬ isK g k (g', nd, ho, key) = true by simp [isK, *])] at hs
      rw [← hs] at hS
      exact ⟨hll, _, hk.sd, hS.sb, trivial⟩
    · rw [if_neg (show ¬ isK g k (g', nd, ho, key) = true by simp [isK, *])] at hs
      rw [← hs] at hS
      exact ⟨hll, _, hk.sd, hS.sb, trivial⟩
  · have hin : i = l.length := by omega
    subst hin
    rw [List.take_length] at hS
    (repeat' (first | (show wpList _ _ _ (_ :: _) _ _; first | (refine st hk ?_; clear hk a; intro a hk) | (refine st_skip hk ?_; clear hk a; intro a hk) | (refine s_skip0 hk ?_; clear hk a; intro a hk) | (first | refine st_lss hk ?_ ?_ | refine st_leq hk ?_ ?_ | refine st_gtr hk ?_ ?_ | refine st_geq hk ?_ ?_ | refine st_eqi hk ?_ ?_ | refine st_nei hk ?_ ?_ | refine st_eqS hk ?_ ?_ | refine st_neS hk ?_ ?_ | refine st_eqs hk ?_ ?_ | refine st_nes hk ?_ ?_) <;> (intro hp; clear hk a; intro a hk) | (first | refine st_box hk hS ?_ | refine st_alloc hk hS ?_); clear hk hS a; intro w b hS a hk | (first | refine st_store hk hS ?_ | refine st_stI hk hS ?_ | refine st_stB hk hS ?_ | refine st_stS hk hS ?_); clear hk hS a; intro w hS a hk | (first | refine st_bs1I hk hS ?_ | refine st_bs1S hk hS ?_ | refine st_app1 hk hS ?_ | refine st_appE hk hS ?_); clear hk hS a; intro w v hS a hk | fail) | refine wp_seq ?_ | refine wp_block ?_ | refine wp_region_lit ?_ | refine q_then ?_ | refine q_thenE ?_ | refine q_thenR ?_ | refine q_inN ?_ | refine q_inR ?_ | refine q_inE ?_ | refine q_inO ?_ | refine wp_skip ?_ | refine wp_ret ?_ | refine wp_exit ?_ | (refine s_end hk ?_; clear hk a; intro a hk) | refine c_true hk ?_ | refine c_false hk ?_ | fail))
    exact done1 hk (h := hS.sb)

/-! ## Check -/
abbrev encK : Int × ByteArray → Value := fun k => .agg #[.int .i64 k.1, .string k.2]
theorem keyK : KeyT Tryd.prog 96 encK := keyIS Tryd.underlying96 (iT rfl) (sT rfl) rfl rfl (kT rfl)

def checkF (l : List Ent) : Bool := l.all (fun e => decide (runF 0 (hoF l e.1 e.2.2.2) ≠ -1))

theorem hoF_take (l : List Ent) (i : Nat) (g : Int) (k : ByteArray) : ∃ j, hoF (l.take i) g k = (hoF l g k).take j := by
  have : hoF l g k = hoF (l.take i) g k ++ hoF (l.drop i) g k := by
    unfold hoF
    rw [← List.map_append, ← List.filter_append, List.take_append_drop]
  exact ⟨(hoF (l.take i) g k).length, by rw [this]; simp⟩

set_option maxHeartbeats 2000000 in
theorem check19_any (l : List Ent) (hl : l.length ≤ 1000) (v : Value) (w0 : World) (hv : SlT l v w0) : Calls Tryd.prog 19 #[v] w0
    (Ret fun v w => v = .bool (checkF l) ∧ St w0 [] w) := by
  refine enter Tryd.func19 rfl Tryd.ntmps19 rfl (fun a hk => ?_); have hS := St.refl w0
  (repeat' (first | (show wpList _ _ _ (_ :: _) _ _; first | (refine st hk ?_; clear hk a; intro a hk) | (refine st_skip hk ?_; clear hk a; intro a hk) | (refine s_skip0 hk ?_; clear hk a; intro a hk) | (first | refine st_lss hk ?_ ?_ | refine st_leq hk ?_ ?_ | refine st_gtr hk ?_ ?_ | refine st_geq hk ?_ ?_ | refine st_eqi hk ?_ ?_ | refine st_nei hk ?_ ?_ | refine st_eqS hk ?_ ?_ | refine st_neS hk ?_ ?_ | refine st_eqs hk ?_ ?_ | refine st_nes hk ?_ ?_) <;> (intro hp; clear hk a; intro a hk) | (first | refine st_box hk hS ?_ | refine st_alloc hk hS ?_); clear hk hS a; intro w b hS a hk | (first | refine st_store hk hS ?_ | refine st_stI hk hS ?_ | refine st_stB hk hS ?_ | refine st_stS hk hS ?_); clear hk hS a; intro w hS a hk | (first | refine st_bs1I hk hS ?_ | refine st_bs1S hk hS ?_ | refine st_app1 hk hS ?_ | refine st_appE hk hS ?_); clear hk hS a; intro w v hS a hk | fail) | refine wp_seq ?_ | refine wp_block ?_ | refine wp_region_lit ?_ | refine q_then ?_ | refine q_thenE ?_ | refine q_thenR ?_ | refine q_inN ?_ | refine q_inR ?_ | refine q_inE ?_ | refine q_inO ?_ | refine wp_skip ?_ | refine wp_ret ?_ | refine wp_exit ?_ | (refine s_end hk ?_; clear hk a; intro a hk) | refine c_true hk ?_ | refine c_false hk ?_ | fail))
  refine sg hk (g_makeMap encK hS ?_); clear hk hS a; intro w mv hS a hk
  (repeat' (first | (show wpList _ _ _ (_ :: _) _ _; first | (refine st hk ?_; clear hk a; intro a hk) | (refine st_skip hk ?_; clear hk a; intro a hk) | (refine s_skip0 hk ?_; clear hk a; intro a hk) | (first | refine st_lss hk ?_ ?_ | refine st_leq hk ?_ ?_ | refine st_gtr hk ?_ ?_ | refine st_geq hk ?_ ?_ | refine st_eqi hk ?_ ?_ | refine st_nei hk ?_ ?_ | refine st_eqS hk ?_ ?_ | refine st_neS hk ?_ ?_ | refine st_eqs hk ?_ ?_ | refine st_nes hk ?_ ?_) <;> (intro hp; clear hk a; intro a hk) | (first | refine st_box hk hS ?_ | refine st_alloc hk hS ?_); clear hk hS a; intro w b hS a hk | (first | refine st_store hk hS ?_ | refine st_stI hk hS ?_ | refine st_stB hk hS ?_ | refine st_stS hk hS ?_); clear hk hS a; intro w hS a hk | (first | refine st_bs1I hk hS ?_ | refine st_bs1S hk hS ?_ | refine st_app1 hk hS ?_ | refine st_appE hk hS ?_); clear hk hS a; intro w v hS a hk | fail) | refine wp_seq ?_ | refine wp_block ?_ | refine wp_region_lit ?_ | refine q_then ?_ | refine q_thenE ?_ | refine q_thenR ?_ | refine q_inN ?_ | refine q_inR ?_ | refine q_inE ?_ | refine q_inO ?_ | refine wp_skip ?_ | refine wp_ret ?_ | refine wp_exit ?_ | (refine s_end hk ?_; clear hk a; intro a hk) | refine c_true hk ?_ | refine c_false hk ?_ | fail))
  replace hk := Kn.kp [3, 8, 9, 10] hk
  refine wp_for l.length (fun i m => [(10, .int .i64 (i : Int))]) (fun i m => [mapH encK mv m]) (fun i m => ∀ g k, (getL m (g, k)).getD (.int .i64 0) = .int .i64 (runF 0 (hoF (l.take i) g k)) ∧ runF 0 (hoF (l.take i) g k) ≠ -1) [] hk (by repeat (first | exact trivial | refine ⟨rfl, ?_⟩)) hS (fun g k => ⟨rfl, by simp [hoF, runF]⟩) ?_
  clear hk hS a
  rintro i m a w hi hk hS hF
  by_cases hll : i < l.length
  · obtain ⟨⟨g, nd, ho, key⟩, hx⟩ : ∃ x, l[i]? = some x := ⟨_, List.getElem?_eq_getElem hll⟩
    have hs := hoF_succ hx
    obtain ⟨hF1, hF2⟩ := hF g key
    have hrs : runF 0 (hoF (l.take (i + 1)) g key) = nextF (runF 0 (hoF (l.take i) g key)) ho := by
      rw [hs g key, if_pos (by simp [isK])]
      have := runF_stop (s := 0) (l := hoF (l.take i) g key ++ [ho]) (i := (hoF (l.take i) g key).length) (h := ho) (by simp) (by simpa using hF2)
      rw [List.take_of_length_le (by simp)] at this
      simpa using this
    (repeat' (first | (show wpList _ _ _ (_ :: _) _ _; first | (refine st hk ?_; clear hk a; intro a hk) | (refine st_skip hk ?_; clear hk a; intro a hk) | (refine s_skip0 hk ?_; clear hk a; intro a hk) | (first | refine st_lss hk ?_ ?_ | refine st_leq hk ?_ ?_ | refine st_gtr hk ?_ ?_ | refine st_geq hk ?_ ?_ | refine st_eqi hk ?_ ?_ | refine st_nei hk ?_ ?_ | refine st_eqS hk ?_ ?_ | refine st_neS hk ?_ ?_ | refine st_eqs hk ?_ ?_ | refine st_nes hk ?_ ?_) <;> (intro hp; clear hk a; intro a hk) | (first | refine st_box hk hS ?_ | refine st_alloc hk hS ?_); clear hk hS a; intro w b hS a hk | (first | refine st_store hk hS ?_ | refine st_stI hk hS ?_ | refine st_stB hk hS ?_ | refine st_stS hk hS ?_); clear hk hS a; intro w hS a hk | (first | refine st_bs1I hk hS ?_ | refine st_bs1S hk hS ?_ | refine st_app1 hk hS ?_ | refine st_appE hk hS ?_); clear hk hS a; intro w v hS a hk | fail) | refine wp_seq ?_ | refine wp_block ?_ | refine wp_region_lit ?_ | refine q_then ?_ | refine q_thenE ?_ | refine q_thenR ?_ | refine q_inN ?_ | refine q_inR ?_ | refine q_inE ?_ | refine q_inO ?_ | refine wp_skip ?_ | refine wp_ret ?_ | refine wp_exit ?_ | (refine s_end hk ?_; clear hk a; intro a hk) | refine c_true hk ?_ | refine c_false hk ?_ | fail))
    refine wp_drawn 8 mixed (by kernel_rfl) hk hS ?_; clear hk hS a
    (repeat' (first | (show ObxE _ _ _ _ _ _ _ _ (_ :: _) _ _ _; first | refine ob_v ?_ | refine obe_skip ?_ | (first | refine ob_lss ?_ ?_ | refine ob_leq ?_ ?_ | refine ob_gtr ?_ ?_ | refine ob_geq ?_ ?_ | refine ob_eqi ?_ ?_ | refine ob_nei ?_ ?_ | refine ob_eqS ?_ ?_ | refine ob_neS ?_ ?_) <;> intro hp | fail) | fail))
    refine' obe_val (fun us a w hk hd hS => ?_) ?_; rotate_left; focus (have hk := Kn.vw hk (by repeat (first | exact VW.nil | apply VW.val rfl | apply VW.base rfl rfl | apply VW.res rfl | apply VW.upd rfl | apply VW.cpy rfl)); exact g_lookup (k := (g, key)) hk (hS.rd (A := mapH encK mv m) (by (repeat (first | exact At.here | apply At.there)))) ⟨hF1, (same undef w).2⟩ (mT rfl) keyK (oT rfl))
    (repeat' (first | (show ObxE _ _ _ _ _ _ _ _ (_ :: _) _ _ _; first | refine ob_v ?_ | refine obe_skip ?_ | (first | refine ob_lss ?_ ?_ | refine ob_leq ?_ ?_ | refine ob_gtr ?_ ?_ | refine ob_geq ?_ ?_ | refine ob_eqi ?_ ?_ | refine ob_nei ?_ ?_ | refine ob_eqS ?_ ?_ | refine ob_neS ?_ ?_) <;> intro hp | fail) | fail))
    refine' obe_val (fun us a w hk hd hS => ?_) ?_; rotate_left; focus (have hk := Kn.vw hk (by repeat (first | exact VW.nil | apply VW.val rfl | apply VW.base rfl rfl | apply VW.res rfl | apply VW.upd rfl | apply VW.cpy rfl)); exact g_callO hk (hf := by kernel_rfl) (hc := next_any _ _ _) (h := fun _ _ h => h))
    (repeat' (first | (show ObxE _ _ _ _ _ _ _ _ (_ :: _) _ _ _; first | refine ob_v ?_ | refine obe_skip ?_ | (first | refine ob_lss ?_ ?_ | refine ob_leq ?_ ?_ | refine ob_gtr ?_ ?_ | refine ob_geq ?_ ?_ | refine ob_eqi ?_ ?_ | refine ob_nei ?_ ?_ | refine ob_eqS ?_ ?_ | refine ob_neS ?_ ?_) <;> intro hp | fail) | fail))
    refine obe_nil ⟨rfl, ?_⟩; intro us a w hk hS
    refine su hk (g_mapUpdate (k := (g, key)) hk hS ?_ (mT rfl) keyK); clear hk hS a; intro w hS a hk
    (repeat' (first | (show wpList _ _ _ (_ :: _) _ _; first | (refine st hk ?_; clear hk a; intro a hk) | (refine st_skip hk ?_; clear hk a; intro a hk) | (refine s_skip0 hk ?_; clear hk a; intro a hk) | (first | refine st_lss hk ?_ ?_ | refine st_leq hk ?_ ?_ | refine st_gtr hk ?_ ?_ | refine st_geq hk ?_ ?_ | refine st_eqi hk ?_ ?_ | refine st_nei hk ?_ ?_ | refine st_eqS hk ?_ ?_ | refine st_neS hk ?_ ?_ | refine st_eqs hk ?_ ?_ | refine st_nes hk ?_ ?_) <;> (intro hp; clear hk a; intro a hk) | (first | refine st_box hk hS ?_ | refine st_alloc hk hS ?_); clear hk hS a; intro w b hS a hk | (first | refine st_store hk hS ?_ | refine st_stI hk hS ?_ | refine st_stB hk hS ?_ | refine st_stS hk hS ?_); clear hk hS a; intro w hS a hk | (first | refine st_bs1I hk hS ?_ | refine st_bs1S hk hS ?_ | refine st_app1 hk hS ?_ | refine st_appE hk hS ?_); clear hk hS a; intro w v hS a hk | fail) | refine wp_seq ?_ | refine wp_block ?_ | refine wp_region_lit ?_ | refine q_then ?_ | refine q_thenE ?_ | refine q_thenR ?_ | refine q_inN ?_ | refine q_inR ?_ | refine q_inE ?_ | refine q_inO ?_ | refine wp_skip ?_ | refine wp_ret ?_ | refine wp_exit ?_ | (refine s_end hk ?_; clear hk a; intro a hk) | refine c_true hk ?_ | refine c_false hk ?_ | fail))
    refine sg hk (g_lookup (k := (g, key)) hk (hS.rd (A := mapH encK mv _) (by (repeat (first | exact At.here | apply At.there)))) ?_ (mT rfl) keyK (oT rfl)); clear hk a; intro a hk
    rw [getL_set, if_pos rfl, Option.getD_some] at hk
    (repeat' (first | (show wpList _ _ _ (_ :: _) _ _; first | (refine st hk ?_; clear hk a; intro a hk) | (refine st_skip hk ?_; clear hk a; intro a hk) | (refine s_skip0 hk ?_; clear hk a; intro a hk) | (first | refine st_lss hk ?_ ?_ | refine st_leq hk ?_ ?_ | refine st_gtr hk ?_ ?_ | refine st_geq hk ?_ ?_ | refine st_eqi hk ?_ ?_ | refine st_nei hk ?_ ?_ | refine st_eqS hk ?_ ?_ | refine st_neS hk ?_ ?_ | refine st_eqs hk ?_ ?_ | refine st_nes hk ?_ ?_) <;> (intro hp; clear hk a; intro a hk) | (first | refine st_box hk hS ?_ | refine st_alloc hk hS ?_); clear hk hS a; intro w b hS a hk | (first | refine st_store hk hS ?_ | refine st_stI hk hS ?_ | refine st_stB hk hS ?_ | refine st_stS hk hS ?_); clear hk hS a; intro w hS a hk | (first | refine st_bs1I hk hS ?_ | refine st_bs1S hk hS ?_ | refine st_app1 hk hS ?_ | refine st_appE hk hS ?_); clear hk hS a; intro w v hS a hk | fail) | refine wp_seq ?_ | refine wp_block ?_ | refine wp_region_lit ?_ | refine q_then ?_ | refine q_thenE ?_ | refine q_thenR ?_ | refine q_inN ?_ | refine q_inR ?_ | refine q_inE ?_ | refine q_inO ?_ | refine wp_skip ?_ | refine wp_ret ?_ | refine wp_exit ?_ | (refine s_end hk ?_; clear hk a; intro a hk) | refine c_true hk ?_ | refine c_false hk ?_ | fail))
    · refine done1 hk (h := ⟨?_, hS.nil⟩)
      congr 1
      symm
      unfold checkF
      rw [List.all_eq_false]
      refine ⟨(g, nd, ho, key), List.mem_of_getElem? hx, ?_⟩
      obtain ⟨j, hj⟩ := hoF_take l (i + 1) g key
      rename_i hp
      rw [← hrs, hj] at hp
      have := runF_dead hp (by omega)
      simp [this]
    · refine ⟨hll, _, hk.sd, hS.sb, fun g1 k1 => ?_⟩
      rw [getL_set]
      by_cases hgk : (g1, k1) = (g, key)
      · rw [if_pos hgk]
        injection hgk with h1 h2
        subst h1; subst h2
        rw [hrs]
        exact ⟨rfl, by assumption⟩
      · rw [if_neg hgk, hs g1 k1, if_neg]
        · exact hF g1 k1
        · intro e
          simp only [isK, Bool.and_eq_true, decide_eq_true_eq] at e
          exact hgk (by rw [e.1, e.2])
  · have hin : i = l.length := by omega
    subst hin
    rw [List.take_length] at hF
    (repeat' (first | (show wpList _ _ _ (_ :: _) _ _; first | (refine st hk ?_; clear hk a; intro a hk) | (refine st_skip hk ?_; clear hk a; intro a hk) | (refine s_skip0 hk ?_; clear hk a; intro a hk) | (first | refine st_lss hk ?_ ?_ | refine st_leq hk ?_ ?_ | refine st_gtr hk ?_ ?_ | refine st_geq hk ?_ ?_ | refine st_eqi hk ?_ ?_ | refine st_nei hk ?_ ?_ | refine st_eqS hk ?_ ?_ | refine st_neS hk ?_ ?_ | refine st_eqs hk ?_ ?_ | refine st_nes hk ?_ ?_) <;> (intro hp; clear hk a; intro a hk) | (first | refine st_box hk hS ?_ | refine st_alloc hk hS ?_); clear hk hS a; intro w b hS a hk | (first | refine st_store hk hS ?_ | refine st_stI hk hS ?_ | refine st_stB hk hS ?_ | refine st_stS hk hS ?_); clear hk hS a; intro w hS a hk | (first | refine st_bs1I hk hS ?_ | refine st_bs1S hk hS ?_ | refine st_app1 hk hS ?_ | refine st_appE hk hS ?_); clear hk hS a; intro w v hS a hk | fail) | refine wp_seq ?_ | refine wp_block ?_ | refine wp_region_lit ?_ | refine q_then ?_ | refine q_thenE ?_ | refine q_thenR ?_ | refine q_inN ?_ | refine q_inR ?_ | refine q_inE ?_ | refine q_inO ?_ | refine wp_skip ?_ | refine wp_ret ?_ | refine wp_exit ?_ | (refine s_end hk ?_; clear hk a; intro a hk) | refine c_true hk ?_ | refine c_false hk ?_ | fail))
    refine done1 hk (h := ⟨?_, hS.nil⟩)
    congr 1
    symm
    unfold checkF
    rw [List.all_eq_true]
    intro e _
    exact decide_eq_true (hF e.1 e.2.2.2).2
end Go.Proofs.YteoedhkppmbkoaaDoor
