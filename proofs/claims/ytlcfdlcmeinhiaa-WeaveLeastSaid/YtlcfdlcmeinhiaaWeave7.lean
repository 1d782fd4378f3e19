/- Layer 12: steps done by the reference. -/
import Derived.Test.YtlcfdlcmeinhiaaWeave6
namespace Go.Proofs.Ytlcfdlcmeinhiaa
open Go.RowKit
set_option maxRecDepth 100000
attribute [local irreducible] Go.Code.wpIn Go.wpListIn Go.Calls Gives Go.Exit.then Go.Exit.inBlock Done ObxE

def stepW (o : List Int) (s : StepW) : Option (List Int) :=
  if s.1 < 1 ∨ 3 < s.1 ∨ (s.2.1 ∈ o ↔ s.1 = 2) then none
  else if 1 < s.1 then (if s.2.2 < 0 ∨ ((woF o s.2.1).length : Int) < s.2.2 then none else some (insF (woF o s.2.1) s.2.2.toNat s.2.1)) else some (woF o s.2.1)
def applyW (o : List Int) (t : List StepW) : Option (List Int) := t.foldl (fun a s => a.bind (stepW · s)) (some o)
theorem apply_succ {o : List Int} {t : List StepW} {i : Nat} {s : StepW} (h : t[i]? = some s) : applyW o (t.take (i + 1)) = (applyW o (t.take i)).bind (stepW · s) := by
  unfold applyW
  rw [List.take_add_one, h, List.foldl_append]; rfl
theorem apply_none (a : List StepW) : ∀ t : List StepW, t.foldl (fun a s => a.bind (stepW · s)) (none : Option (List Int)) = none
  | [] => rfl
  | _ :: t => by rw [List.foldl_cons]; exact apply_none a t
theorem apply_cut {o : List Int} {t : List StepW} {i : Nat} (h : applyW o (t.take i) = none) : applyW o t = none := by
  have hs : t = t.take i ++ t.drop i := (List.take_append_drop i t).symm
  unfold applyW at h ⊢
  rw [hs, List.foldl_append, h]
  exact apply_none t _
theorem wo_len (o : List Int) (id : Int) : (woF o id).length ≤ o.length := List.length_filter_le _ _

set_option maxHeartbeats 4000000 in
theorem rapply_any (l : List Int) (t : List StepW) (vl vt : Value) (w0 : World) (hv : SlT l vl w0) (ht : SlT t vt w0) (hl : l.length ≤ 100) (htl : t.length ≤ 100) :
    Calls Try.prog 37 #[vl, vt] w0 (Ret fun v w => ∃ (r : Value) (b : Bool), v = .tuple #[r, .bool b] ∧ (match applyW (onceI l) t with | some X => b = true ∧ St w0 [OwT 3 X r] w | none => b = false ∧ r = .slice none 0 0 ∧ St w0 [] w)) := by
  have hol := once_len l l.length
  refine enter Try.func37 rfl Try.ntmps37 rfl (fun a hk => ?_); have hS := St.refl w0
  (repeat' (first | (show wpListIn _ _ _ _ _ (_ :: _) _ _; first | (refine st hk ?_; clear hk a; intro a hk) | (refine st_skip hk ?_; clear hk a; intro a hk) | (refine s_skip0 hk ?_; clear hk a; intro a hk) | (first | refine st_lss hk ?_ ?_ | refine st_leq hk ?_ ?_ | refine st_gtr hk ?_ ?_ | refine st_geq hk ?_ ?_ | refine st_eqi hk ?_ ?_ | refine st_nei hk ?_ ?_ | refine st_eqS hk ?_ ?_ | refine st_neS hk ?_ ?_ | refine st_cmpS hk ?_ ?_ | refine st_eqs hk ?_ ?_ | refine st_nes hk ?_ ?_) <;> (intro hp; clear hk a; intro a hk) | (first | refine st_box hk hS ?_ | refine st_alloc hk hS ?_); clear hk hS a; intro w b hS a hk | (first | refine st_store hk hS ?_ | refine st_stI hk hS ?_ | refine st_stB hk hS ?_ | refine st_stS hk hS ?_); clear hk hS a; intro w hS a hk | (first | refine st_bs1I hk hS ?_ | refine st_bs1S hk hS ?_ | refine st_app1 hk hS ?_ | refine st_appE hk hS ?_); clear hk hS a; intro w v hS a hk | fail) | refine wpIn_seq ?_ | refine wpIn_block ?_ | refine wpIn_region_lit ?_ | refine q_then ?_ | refine q_thenE ?_ | refine q_thenR ?_ | refine q_inN ?_ | refine q_inR ?_ | refine q_inE ?_ | refine q_inO ?_ | refine wpIn_skip ?_ | refine wpIn_ret ?_ | refine wpIn_exit ?_ | (refine s_end hk ?_; clear hk a; intro a hk) | refine c_true hk ?_ | refine c_false hk ?_ | fail))
  refine sg hk (g_callO hk (hf := by kernel_rfl) (hc := ronce_any l vl _ (hS.rdT hv) (by omega)) (h := ?_)); clear hk a; rintro vo w hS1 a hk; replace hS := hS.call hS1; clear hS1
  (repeat' (first | (show wpListIn _ _ _ _ _ (_ :: _) _ _; first | (refine st hk ?_; clear hk a; intro a hk) | (refine st_skip hk ?_; clear hk a; intro a hk) | (refine s_skip0 hk ?_; clear hk a; intro a hk) | (first | refine st_lss hk ?_ ?_ | refine st_leq hk ?_ ?_ | refine st_gtr hk ?_ ?_ | refine st_geq hk ?_ ?_ | refine st_eqi hk ?_ ?_ | refine st_nei hk ?_ ?_ | refine st_eqS hk ?_ ?_ | refine st_neS hk ?_ ?_ | refine st_cmpS hk ?_ ?_ | refine st_eqs hk ?_ ?_ | refine st_nes hk ?_ ?_) <;> (intro hp; clear hk a; intro a hk) | (first | refine st_box hk hS ?_ | refine st_alloc hk hS ?_); clear hk hS a; intro w b hS a hk | (first | refine st_store hk hS ?_ | refine st_stI hk hS ?_ | refine st_stB hk hS ?_ | refine st_stS hk hS ?_); clear hk hS a; intro w hS a hk | (first | refine st_bs1I hk hS ?_ | refine st_bs1S hk hS ?_ | refine st_app1 hk hS ?_ | refine st_appE hk hS ?_); clear hk hS a; intro w v hS a hk | fail) | refine wpIn_seq ?_ | refine wpIn_block ?_ | refine wpIn_region_lit ?_ | refine q_then ?_ | refine q_thenE ?_ | refine q_thenR ?_ | refine q_inN ?_ | refine q_inR ?_ | refine q_inE ?_ | refine q_inO ?_ | refine wpIn_skip ?_ | refine wpIn_ret ?_ | refine wpIn_exit ?_ | (refine s_end hk ?_; clear hk a; intro a hk) | refine c_true hk ?_ | refine c_false hk ?_ | fail))
  replace hk := Kn.kp [6, 12, 13, 14] hk
  refine wp_for t.length (fun i x => [(6, x.2), (14, .int .i64 (i : Int))]) (fun _ x => [OwT 3 x.1 x.2]) (fun i x => applyW (onceI l) (t.take i) = some x.1 ∧ x.1.length ≤ 100 + i) ((onceI l, vo) : List Int × Value) hk (by repeat (first | exact trivial | refine ⟨rfl, ?_⟩)) hS.sb ⟨rfl, by simp only; unfold onceI; omega⟩ ?_
  clear hk hS a
  rintro i ⟨X, vx⟩ a w hi hk hS ⟨hF, hXl⟩
  simp only at hk hS hF hXl
  have ht1 := hS.rdT ht
  by_cases hil : i < t.length
  · obtain ⟨⟨k, id, q⟩, hx⟩ : ∃ x, t[i]? = some x := ⟨_, List.getElem?_eq_getElem hil⟩
    have hst := apply_succ (o := onceI l) hx
    rw [hF, Option.bind_some] at hst
    have hn := idx_neg (l := X) (id := id)
    have hwl := wo_len X id
    (repeat' (first | (show wpListIn _ _ _ _ _ (_ :: _) _ _; first | (refine st hk ?_; clear hk a; intro a hk) | (refine st_skip hk ?_; clear hk a; intro a hk) | (refine s_skip0 hk ?_; clear hk a; intro a hk) | (first | refine st_lss hk ?_ ?_ | refine st_leq hk ?_ ?_ | refine st_gtr hk ?_ ?_ | refine st_geq hk ?_ ?_ | refine st_eqi hk ?_ ?_ | refine st_nei hk ?_ ?_ | refine st_eqS hk ?_ ?_ | refine st_neS hk ?_ ?_ | refine st_cmpS hk ?_ ?_ | refine st_eqs hk ?_ ?_ | refine st_nes hk ?_ ?_) <;> (intro hp; clear hk a; intro a hk) | (first | refine st_box hk hS ?_ | refine st_alloc hk hS ?_); clear hk hS a; intro w b hS a hk | (first | refine st_store hk hS ?_ | refine st_stI hk hS ?_ | refine st_stB hk hS ?_ | refine st_stS hk hS ?_); clear hk hS a; intro w hS a hk | (first | refine st_bs1I hk hS ?_ | refine st_bs1S hk hS ?_ | refine st_app1 hk hS ?_ | refine st_appE hk hS ?_); clear hk hS a; intro w v hS a hk | fail) | refine wpIn_seq ?_ | refine wpIn_block ?_ | refine wpIn_region_lit ?_ | refine q_then ?_ | refine q_thenE ?_ | refine q_thenR ?_ | refine q_inN ?_ | refine q_inR ?_ | refine q_inE ?_ | refine q_inO ?_ | refine wpIn_skip ?_ | refine wpIn_ret ?_ | refine wpIn_exit ?_ | (refine s_end hk ?_; clear hk a; intro a hk) | refine c_true hk ?_ | refine c_false hk ?_ | fail))
    refine sg hk (g_callO hk (hf := by kernel_rfl) (hc := rat_any X id vx _ (by first | exact St.rdT hS (by assumption) | exact OwT.rd (hS.rd (A := OwT _ _ _) (by (repeat (first | exact At.here | apply At.there)))) | assumption) (by omega)) (h := ?_)); clear hk a; rintro _ w ⟨rfl, hS1⟩ a hk; replace hS := hS.call0 hS1; clear hS1
    generalize idxI X id = p at *
    by_cases hbad : k < 1 ∨ 3 < k ∨ (id ∈ X ↔ k = 2)
    · have hno : applyW (onceI l) t = none := apply_cut (i := i + 1) (by rw [hst]; unfold stepW; rw [if_pos hbad])
      have hbad' : k < 1 ∨ 3 < k ∨ (0 ≤ p ↔ k = 2) := by
        rcases hbad with h | h | h
        · exact .inl h
        · exact .inr (.inl h)
        · refine .inr (.inr ?_)
          rw [← h]
          constructor
          · intro h1; exact Classical.byContradiction fun h2 => absurd (hn.2 h2) (by omega)
          · intro h1; rcases Int.lt_or_le p 0 with h2 | h2
            · exact absurd h1 (hn.1 h2)
            · exact h2
      (repeat' (first | (show wpListIn _ _ _ _ _ (_ :: _) _ _; first | (refine st hk ?_; clear hk a; intro a hk) | (refine st_skip hk ?_; clear hk a; intro a hk) | (refine s_skip0 hk ?_; clear hk a; intro a hk) | (first | refine st_lss hk ?_ ?_ | refine st_leq hk ?_ ?_ | refine st_gtr hk ?_ ?_ | refine st_geq hk ?_ ?_ | refine st_eqi hk ?_ ?_ | refine st_nei hk ?_ ?_ | refine st_eqS hk ?_ ?_ | refine st_neS hk ?_ ?_ | refine st_cmpS hk ?_ ?_ | refine st_eqs hk ?_ ?_ | refine st_nes hk ?_ ?_) <;> (intro hp; clear hk a; intro a hk) | (first | refine st_box hk hS ?_ | refine st_alloc hk hS ?_); clear hk hS a; intro w b hS a hk | (first | refine st_store hk hS ?_ | refine st_stI hk hS ?_ | refine st_stB hk hS ?_ | refine st_stS hk hS ?_); clear hk hS a; intro w hS a hk | (first | refine st_bs1I hk hS ?_ | refine st_bs1S hk hS ?_ | refine st_app1 hk hS ?_ | refine st_appE hk hS ?_); clear hk hS a; intro w v hS a hk | fail) | refine wpIn_seq ?_ | refine wpIn_block ?_ | refine wpIn_region_lit ?_ | refine q_then ?_ | refine q_thenE ?_ | refine q_thenR ?_ | refine q_inN ?_ | refine q_inR ?_ | refine q_inE ?_ | refine q_inO ?_ | refine wpIn_skip ?_ | refine wpIn_ret ?_ | refine wpIn_exit ?_ | (refine s_end hk ?_; clear hk a; intro a hk) | refine c_true hk ?_ | refine c_false hk ?_ | fail))
      all_goals first
        | exact done2 hk (h := ⟨_, _, rfl, by rw [hno]; exact ⟨rfl, rfl, hS.nil⟩⟩)
        | (exfalso; omega)
        | (exfalso; simp at *; omega)
    · obtain ⟨hk1, hk3, hne⟩ : 1 ≤ k ∧ k ≤ 3 ∧ ¬ (id ∈ X ↔ k = 2) := ⟨by omega, by omega, fun h => hbad (.inr (.inr h))⟩
      have hcase : (k = 2 ∧ p < 0) ∨ (k ≠ 2 ∧ 0 ≤ p) := by
        by_cases hin : id ∈ X
        · refine .inr ⟨fun e => hne ⟨fun _ => e, fun _ => hin⟩, ?_⟩
          rcases Int.lt_or_le p 0 with h2 | h2
          · exact absurd hin (hn.1 h2)
          · exact h2
        · refine .inl ⟨Classical.byContradiction fun e => hne ⟨fun h => absurd h hin, fun h => absurd h e⟩, hn.2 hin⟩
      have hst1 : stepW X (k, id, q) = if 1 < k then (if q < 0 ∨ ((woF X id).length : Int) < q then none else some (insF (woF X id) q.toNat id)) else some (woF X id) := by
        unfold stepW; rw [if_neg hbad]
      rw [hst1] at hst
      rcases hcase with ⟨hk2, hp⟩ | ⟨hk2, hp⟩
      all_goals
        (repeat' (first | (show wpListIn _ _ _ _ _ (_ :: _) _ _; first | (refine st hk ?_; clear hk a; intro a hk) | (refine st_skip hk ?_; clear hk a; intro a hk) | (refine s_skip0 hk ?_; clear hk a; intro a hk) | (first | refine st_lss hk ?_ ?_ | refine st_leq hk ?_ ?_ | refine st_gtr hk ?_ ?_ | refine st_geq hk ?_ ?_ | refine st_eqi hk ?_ ?_ | refine st_nei hk ?_ ?_ | refine st_eqS hk ?_ ?_ | refine st_neS hk ?_ ?_ | refine st_cmpS hk ?_ ?_ | refine st_eqs hk ?_ ?_ | refine st_nes hk ?_ ?_) <;> (intro hp; clear hk a; intro a hk) | (first | refine st_box hk hS ?_ | refine st_alloc hk hS ?_); clear hk hS a; intro w b hS a hk | (first | refine st_store hk hS ?_ | refine st_stI hk hS ?_ | refine st_stB hk hS ?_ | refine st_stS hk hS ?_); clear hk hS a; intro w hS a hk | (first | refine st_bs1I hk hS ?_ | refine st_bs1S hk hS ?_ | refine st_app1 hk hS ?_ | refine st_appE hk hS ?_); clear hk hS a; intro w v hS a hk | fail) | refine wpIn_seq ?_ | refine wpIn_block ?_ | refine wpIn_region_lit ?_ | refine q_then ?_ | refine q_thenE ?_ | refine q_thenR ?_ | refine q_inN ?_ | refine q_inR ?_ | refine q_inE ?_ | refine q_inO ?_ | refine wpIn_skip ?_ | refine wpIn_ret ?_ | refine wpIn_exit ?_ | (refine s_end hk ?_; clear hk a; intro a hk) | refine c_true hk ?_ | refine c_false hk ?_ | fail))
        refine sg hk (g_callO hk (hf := by kernel_rfl) (hc := rwo_any X id vx _ (by first | exact St.rdT hS (by assumption) | exact OwT.rd (hS.rd (A := OwT _ _ _) (by (repeat (first | exact At.here | apply At.there)))) | assumption) (by omega)) (h := ?_)); clear hk a; rintro vw w hS1 a hk; replace hS := hS.call hS1; clear hS1
        by_cases hk1' : 1 < k
        · rw [if_pos hk1'] at hst
          by_cases hq : q < 0 ∨ ((woF X id).length : Int) < q
          · rw [if_pos hq] at hst
            have hno := apply_cut (i := i + 1) hst
            (repeat' (first | (show wpListIn _ _ _ _ _ (_ :: _) _ _; first | (refine st hk ?_; clear hk a; intro a hk) | (refine st_skip hk ?_; clear hk a; intro a hk) | (refine s_skip0 hk ?_; clear hk a; intro a hk) | (first | refine st_lss hk ?_ ?_ | refine st_leq hk ?_ ?_ | refine st_gtr hk ?_ ?_ | refine st_geq hk ?_ ?_ | refine st_eqi hk ?_ ?_ | refine st_nei hk ?_ ?_ | refine st_eqS hk ?_ ?_ | refine st_neS hk ?_ ?_ | refine st_cmpS hk ?_ ?_ | refine st_eqs hk ?_ ?_ | refine st_nes hk ?_ ?_) <;> (intro hp; clear hk a; intro a hk) | (first | refine st_box hk hS ?_ | refine st_alloc hk hS ?_); clear hk hS a; intro w b hS a hk | (first | refine st_store hk hS ?_ | refine st_stI hk hS ?_ | refine st_stB hk hS ?_ | refine st_stS hk hS ?_); clear hk hS a; intro w hS a hk | (first | refine st_bs1I hk hS ?_ | refine st_bs1S hk hS ?_ | refine st_app1 hk hS ?_ | refine st_appE hk hS ?_); clear hk hS a; intro w v hS a hk | fail) | refine wpIn_seq ?_ | refine wpIn_block ?_ | refine wpIn_region_lit ?_ | refine q_then ?_ | refine q_thenE ?_ | refine q_thenR ?_ | refine q_inN ?_ | refine q_inR ?_ | refine q_inE ?_ | refine q_inO ?_ | refine wpIn_skip ?_ | refine wpIn_ret ?_ | refine wpIn_exit ?_ | (refine s_end hk ?_; clear hk a; intro a hk) | refine c_true hk ?_ | refine c_false hk ?_ | fail))
            all_goals first
              | exact done2 hk (h := ⟨_, _, rfl, by rw [hno]; exact ⟨rfl, rfl, hS.nil⟩⟩)
              | (exfalso; omega)
          · rw [if_neg hq] at hst
            have hq1 : 0 ≤ q ∧ q ≤ (woF X id).length := by omega
            obtain ⟨Q, rfl⟩ := Int.eq_ofNat_of_zero_le hq1.1
            have hQ : Q ≤ (woF X id).length := by omega
            have hql := insF_len (e := id) hQ
            (repeat' (first | (show wpListIn _ _ _ _ _ (_ :: _) _ _; first | (refine st hk ?_; clear hk a; intro a hk) | (refine st_skip hk ?_; clear hk a; intro a hk) | (refine s_skip0 hk ?_; clear hk a; intro a hk) | (first | refine st_lss hk ?_ ?_ | refine st_leq hk ?_ ?_ | refine st_gtr hk ?_ ?_ | refine st_geq hk ?_ ?_ | refine st_eqi hk ?_ ?_ | refine st_nei hk ?_ ?_ | refine st_eqS hk ?_ ?_ | refine st_neS hk ?_ ?_ | refine st_cmpS hk ?_ ?_ | refine st_eqs hk ?_ ?_ | refine st_nes hk ?_ ?_) <;> (intro hp; clear hk a; intro a hk) | (first | refine st_box hk hS ?_ | refine st_alloc hk hS ?_); clear hk hS a; intro w b hS a hk | (first | refine st_store hk hS ?_ | refine st_stI hk hS ?_ | refine st_stB hk hS ?_ | refine st_stS hk hS ?_); clear hk hS a; intro w hS a hk | (first | refine st_bs1I hk hS ?_ | refine st_bs1S hk hS ?_ | refine st_app1 hk hS ?_ | refine st_appE hk hS ?_); clear hk hS a; intro w v hS a hk | fail) | refine wpIn_seq ?_ | refine wpIn_block ?_ | refine wpIn_region_lit ?_ | refine q_then ?_ | refine q_thenE ?_ | refine q_thenR ?_ | refine q_inN ?_ | refine q_inR ?_ | refine q_inE ?_ | refine q_inO ?_ | refine wpIn_skip ?_ | refine wpIn_ret ?_ | refine wpIn_exit ?_ | (refine s_end hk ?_; clear hk a; intro a hk) | refine c_true hk ?_ | refine c_false hk ?_ | fail))
            refine sg hk (g_callO hk (hf := by kernel_rfl) (hc := rput_any (woF X id) Q id vw _ (by first | exact St.rdT hS (by assumption) | exact OwT.rd (hS.rd (A := OwT _ _ _) (by (repeat (first | exact At.here | apply At.there)))) | assumption) hQ (by omega)) (h := ?_)); clear hk a; rintro vz w hS1 a hk; replace hS := hS.call hS1; clear hS1
            (repeat' (first | (show wpListIn _ _ _ _ _ (_ :: _) _ _; first | (refine st hk ?_; clear hk a; intro a hk) | (refine st_skip hk ?_; clear hk a; intro a hk) | (refine s_skip0 hk ?_; clear hk a; intro a hk) | (first | refine st_lss hk ?_ ?_ | refine st_leq hk ?_ ?_ | refine st_gtr hk ?_ ?_ | refine st_geq hk ?_ ?_ | refine st_eqi hk ?_ ?_ | refine st_nei hk ?_ ?_ | refine st_eqS hk ?_ ?_ | refine st_neS hk ?_ ?_ | refine st_cmpS hk ?_ ?_ | refine st_eqs hk ?_ ?_ | refine st_nes hk ?_ ?_) <;> (intro hp; clear hk a; intro a hk) | (first | refine st_box hk hS ?_ | refine st_alloc hk hS ?_); clear hk hS a; intro w b hS a hk | (first | refine st_store hk hS ?_ | refine st_stI hk hS ?_ | refine st_stB hk hS ?_ | refine st_stS hk hS ?_); clear hk hS a; intro w hS a hk | (first | refine st_bs1I hk hS ?_ | refine st_bs1S hk hS ?_ | refine st_app1 hk hS ?_ | refine st_appE hk hS ?_); clear hk hS a; intro w v hS a hk | fail) | refine wpIn_seq ?_ | refine wpIn_block ?_ | refine wpIn_region_lit ?_ | refine q_then ?_ | refine q_thenE ?_ | refine q_thenR ?_ | refine q_inN ?_ | refine q_inR ?_ | refine q_inE ?_ | refine q_inO ?_ | refine wpIn_skip ?_ | refine wpIn_ret ?_ | refine wpIn_exit ?_ | (refine s_end hk ?_; clear hk a; intro a hk) | refine c_true hk ?_ | refine c_false hk ?_ | fail))
            exact ⟨hil, (insF (woF X id) Q id, vz), hk.sd, hS.sb, hst, by simp only; omega⟩
        · rw [if_neg hk1'] at hst
          by_cases hk22 : k = 2
          · exfalso; omega
          · (repeat' (first | (show wpListIn _ _ _ _ _ (_ :: _) _ _; first | (refine st hk ?_; clear hk a; intro a hk) | (refine st_skip hk ?_; clear hk a; intro a hk) | (refine s_skip0 hk ?_; clear hk a; intro a hk) | (first | refine st_lss hk ?_ ?_ | refine st_leq hk ?_ ?_ | refine st_gtr hk ?_ ?_ | refine st_geq hk ?_ ?_ | refine st_eqi hk ?_ ?_ | refine st_nei hk ?_ ?_ | refine st_eqS hk ?_ ?_ | refine st_neS hk ?_ ?_ | refine st_cmpS hk ?_ ?_ | refine st_eqs hk ?_ ?_ | refine st_nes hk ?_ ?_) <;> (intro hp; clear hk a; intro a hk) | (first | refine st_box hk hS ?_ | refine st_alloc hk hS ?_); clear hk hS a; intro w b hS a hk | (first | refine st_store hk hS ?_ | refine st_stI hk hS ?_ | refine st_stB hk hS ?_ | refine st_stS hk hS ?_); clear hk hS a; intro w hS a hk | (first | refine st_bs1I hk hS ?_ | refine st_bs1S hk hS ?_ | refine st_app1 hk hS ?_ | refine st_appE hk hS ?_); clear hk hS a; intro w v hS a hk | fail) | refine wpIn_seq ?_ | refine wpIn_block ?_ | refine wpIn_region_lit ?_ | refine q_then ?_ | refine q_thenE ?_ | refine q_thenR ?_ | refine q_inN ?_ | refine q_inR ?_ | refine q_inE ?_ | refine q_inO ?_ | refine wpIn_skip ?_ | refine wpIn_ret ?_ | refine wpIn_exit ?_ | (refine s_end hk ?_; clear hk a; intro a hk) | refine c_true hk ?_ | refine c_false hk ?_ | fail))
            all_goals first
              | exact ⟨hil, (woF X id, vw), hk.sd, hS.sb, hst, by simp only; omega⟩
              | (exfalso; omega)
              | (exfalso; simp_all; omega)
              | (exfalso; simp_all)
  · have : i = t.length := by omega
    subst this
    rw [List.take_length] at hF
    (repeat' (first | (show wpListIn _ _ _ _ _ (_ :: _) _ _; first | (refine st hk ?_; clear hk a; intro a hk) | (refine st_skip hk ?_; clear hk a; intro a hk) | (refine s_skip0 hk ?_; clear hk a; intro a hk) | (first | refine st_lss hk ?_ ?_ | refine st_leq hk ?_ ?_ | refine st_gtr hk ?_ ?_ | refine st_geq hk ?_ ?_ | refine st_eqi hk ?_ ?_ | refine st_nei hk ?_ ?_ | refine st_eqS hk ?_ ?_ | refine st_neS hk ?_ ?_ | refine st_cmpS hk ?_ ?_ | refine st_eqs hk ?_ ?_ | refine st_nes hk ?_ ?_) <;> (intro hp; clear hk a; intro a hk) | (first | refine st_box hk hS ?_ | refine st_alloc hk hS ?_); clear hk hS a; intro w b hS a hk | (first | refine st_store hk hS ?_ | refine st_stI hk hS ?_ | refine st_stB hk hS ?_ | refine st_stS hk hS ?_); clear hk hS a; intro w hS a hk | (first | refine st_bs1I hk hS ?_ | refine st_bs1S hk hS ?_ | refine st_app1 hk hS ?_ | refine st_appE hk hS ?_); clear hk hS a; intro w v hS a hk | fail) | refine wpIn_seq ?_ | refine wpIn_block ?_ | refine wpIn_region_lit ?_ | refine q_then ?_ | refine q_thenE ?_ | refine q_thenR ?_ | refine q_inN ?_ | refine q_inR ?_ | refine q_inE ?_ | refine q_inO ?_ | refine wpIn_skip ?_ | refine wpIn_ret ?_ | refine wpIn_exit ?_ | (refine s_end hk ?_; clear hk a; intro a hk) | refine c_true hk ?_ | refine c_false hk ?_ | fail))
    exact done2 hk (h := ⟨_, _, rfl, by rw [hF]; exact ⟨rfl, hS⟩⟩)
end Go.Proofs.Ytlcfdlcmeinhiaa
