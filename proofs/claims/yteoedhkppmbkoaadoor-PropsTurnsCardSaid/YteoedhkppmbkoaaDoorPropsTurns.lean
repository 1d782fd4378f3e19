/- Layer 4: one map is turned into another one. -/
import Derived.Test.YteoedhkppmbkoaaDoorPropsMine
import Derived.Test.YteoedhkppmbkoaaDoorPropsSame
namespace Go.Proofs.YteoedhkppmbkoaaDoor
open Go.RowKit
set_option maxRecDepth 100000
attribute [local irreducible] Go.Code.wpIn Go.wpListIn Go.Calls Gives Go.Exit.then Go.Exit.inBlock Done ObxE

theorem drop_lastN (M : List PrI) (k n : ByteArray) (hM : Rises nmI M) : lastF nmI (dropI M k) n = if n = k then none else lastF nmI M n := by
  have hr := dropI_rises M k
  have hs : snapF nmI M = M := snap_of_rises nmI hM
  by_cases e : n = k
  · rw [if_pos e]
    refine last_none nmI (fun p hp h => ?_)
    unfold dropI at hp
    rw [hs, List.mem_filter] at hp
    have h2 : ¬ p.1 = k := by simpa using hp.2
    exact h2 (h.trans e)
  · rw [if_neg e]
    cases hl : lastF nmI M n with
    | some p =>
      have hk := last_key nmI hl
      subst hk
      refine rises_last nmI hr ?_
      unfold dropI
      rw [hs, List.mem_filter]
      exact ⟨last_mem nmI hl, by simpa using e⟩
    | none =>
      refine last_none nmI (fun p hp e => ?_)
      unfold dropI at hp
      rw [hs, List.mem_filter] at hp
      subst e
      rw [rises_last nmI hM hp.1] at hl
      cases hl
theorem put_lastN (M : List PrI) (p : PrI) (n : ByteArray) (hM : Rises nmI M) : lastF nmI (putF nmI M p) n = if n = p.1 then some p else lastF nmI M n := by
  rw [← snap_app nmI hM, snap_last_eq, last_snoc]
  by_cases e : n = p.1
  · rw [if_pos e, if_pos (show nmI p = n from e.symm)]
  · rw [if_neg e, if_neg (show ¬ nmI p = n from fun h => e h.symm)]
open Classical in
theorem fold_drops : ∀ (ks : List ByteArray) (M : List PrI) (n : ByteArray), Rises nmI M →
    Rises nmI ((ks.map (fun k => ((true, k, 0) : SpI))).foldl stepI M) ∧ lastF nmI ((ks.map (fun k => ((true, k, 0) : SpI))).foldl stepI M) n = if n ∈ ks then none else lastF nmI M n
  | [], M, n, hM => ⟨hM, by simp⟩
  | k :: ks, M, n, hM => by
    have hs : stepI M (true, k, 0) = dropI M k := rfl
    obtain ⟨h1, h2⟩ := fold_drops ks (dropI M k) n (dropI_rises M k)
    rw [List.map_cons, List.foldl_cons, hs]
    refine ⟨h1, ?_⟩
    rw [h2, drop_lastN M k n hM]
    by_cases e1 : n ∈ ks
    · simp [e1]
    · by_cases e2 : n = k <;> simp [e1, e2]
open Classical in
theorem fold_puts (C : List PrI) (hC : Rises nmI C) : ∀ (ps : List PrI) (M : List PrI) (n : ByteArray), Rises nmI M → (∀ p ∈ ps, p ∈ C) →
    Rises nmI ((ps.map (fun p => ((false, p.1, p.2) : SpI))).foldl stepI M) ∧ lastF nmI ((ps.map (fun p => ((false, p.1, p.2) : SpI))).foldl stepI M) n = if (∃ p ∈ ps, p.1 = n) then lastF nmI C n else lastF nmI M n
  | [], M, n, hM, _ => ⟨hM, by simp⟩
  | p :: ps, M, n, hM, hp => by
    have hs : stepI M (false, p.1, p.2) = putF nmI M p := rfl
    obtain ⟨h1, h2⟩ := fold_puts C hC ps (putF nmI M p) n (put_rises nmI hM) (fun q hq => hp q (List.mem_cons_of_mem _ hq))
    rw [List.map_cons, List.foldl_cons, hs]
    refine ⟨h1, ?_⟩
    rw [h2, put_lastN M p n hM]
    by_cases e1 : ∃ q ∈ ps, q.1 = n
    · rw [if_pos e1, if_pos (by obtain ⟨q, hq, e⟩ := e1; exact ⟨q, List.mem_cons_of_mem _ hq, e⟩)]
    · rw [if_neg e1]
      by_cases e2 : n = p.1
      · rw [if_pos e2, if_pos ⟨p, List.mem_cons_self, e2.symm⟩, e2]
        exact (rises_last nmI hC (hp p List.mem_cons_self)).symm
      · rw [if_neg e2, if_neg]
        rintro ⟨q, hq, e⟩
        rcases List.mem_cons.1 hq with rfl | hq
        · exact e2 e.symm
        · exact e1 ⟨q, hq, e⟩
open Classical in
/-- **The steps come to the new map.** -/
theorem apply_turn (a c : List PrI) : applyI a (turnI a c) = snapF nmI c := by
  have hA := snap_rises nmI a
  have hC := snap_rises nmI c
  obtain ⟨A, hAd⟩ : ∃ A, A = snapF nmI a := ⟨_, rfl⟩
  obtain ⟨C, hCd⟩ : ∃ C, C = snapF nmI c := ⟨_, rfl⟩
  unfold applyI turnI
  rw [← hAd] at hA ⊢
  rw [← hCd] at hC ⊢
  rw [List.foldl_append]
  obtain ⟨N, hN⟩ : ∃ N, N = (A.filter (fun p => (lastF nmI C p.1).isNone)).map (fun p => p.1) := ⟨_, rfl⟩
  have e1 : turn1I C A = N.map (fun k => ((true, k, 0) : SpI)) := by rw [hN, List.map_map]; rfl
  have e2 : turn2I A C = (C.filter (fun p => decide (lastF nmI A p.1 ≠ some p))).map (fun p => ((false, p.1, p.2) : SpI)) := rfl
  rw [e1, e2]
  have hd := fun n => fold_drops N A n hA
  have hp := fun n => fold_puts C hC (C.filter (fun p => decide (lastF nmI A p.1 ≠ some p))) _ n (hd n).1 (fun p hp => (List.mem_filter.1 hp).1)
  have hR := (hp ⟨#[]⟩).1
  have hl : ∀ n, lastF nmI (((C.filter (fun p => decide (lastF nmI A p.1 ≠ some p))).map (fun p => ((false, p.1, p.2) : SpI))).foldl stepI ((N.map (fun k => ((true, k, 0) : SpI))).foldl stepI A)) n = lastF nmI C n := by
    intro n
    rw [(hp n).2]
    by_cases h1 : ∃ p ∈ C.filter (fun p => decide (lastF nmI A p.1 ≠ some p)), p.1 = n
    · rw [if_pos h1]
    · rw [if_neg h1, (hd n).2]
      by_cases h2 : n ∈ N
      · rw [if_pos h2]
        rw [hN] at h2
        obtain ⟨p, hpm, e⟩ := List.mem_map.1 h2
        have := (List.mem_filter.1 hpm).2
        rw [e] at this
        cases hc : lastF nmI C n with
        | none => rfl
        | some q => rw [hc] at this; cases this
      · rw [if_neg h2]
        cases hc : lastF nmI C n with
        | none =>
          cases ha : lastF nmI A n with
          | none => rfl
          | some q =>
            have hq := last_key nmI ha
            refine absurd ?_ h2
            rw [hN]
            refine List.mem_map.2 ⟨q, List.mem_filter.2 ⟨last_mem nmI ha, ?_⟩, hq⟩
            rw [show q.1 = n from hq, hc]; rfl
        | some p =>
          have hq := last_key nmI hc
          have hpm := last_mem nmI hc
          refine Classical.byContradiction fun hne => h1 ⟨p, List.mem_filter.2 ⟨hpm, ?_⟩, hq⟩
          rw [show p.1 = n from hq]
          exact decide_eq_true hne
  refine rises_ext nmI hR hC (fun x => ?_)
  constructor
  · intro hx
    have := rises_last nmI hR hx
    rw [hl] at this
    exact last_mem nmI this
  · intro hx
    have := rises_last nmI hC hx
    rw [← hl] at this
    exact last_mem nmI this
theorem turn_inR {a c : List PrI} (hc : InR c) : ∀ s ∈ turnI a c, -9223372036854775808 ≤ s.2.2 ∧ s.2.2 ≤ 9223372036854775807 := fun s hs => by
  unfold turnI at hs
  rcases List.mem_append.1 hs with h | h
  · unfold turn1I at h
    obtain ⟨p, _, rfl⟩ := List.mem_map.1 h
    exact ⟨by show (-9223372036854775808 : Int) ≤ 0; decide, by show (0 : Int) ≤ 9223372036854775807; decide⟩
  · unfold turn2I at h
    obtain ⟨p, hp, rfl⟩ := List.mem_map.1 h
    exact hc.snap p (List.mem_filter.1 hp).1

set_option maxHeartbeats 16000000 in
theorem propsTurns_any (la lb : List PrI) (hra : InR la) (hrb : InR lb) (va vb : Value) (w0 : World) (ht : TabW w0) (ha : SlT la va w0) (hb : SlT lb vb w0) :
    Calls Tryd.prog 10 #[va, vb] w0 (Ret fun v w => v = .bool true ∧ St w0 [] w) := by
  refine enter Tryd.func10 rfl Tryd.ntmps10 rfl (fun a hk => ?_); have hS := St.refl w0
  (repeat' (first | (show wpListIn _ _ _ _ _ (_ :: _) _ _; first | (refine st hk ?_; clear hk a; intro a hk) | (refine st_skip hk ?_; clear hk a; intro a hk) | (refine s_skip0 hk ?_; clear hk a; intro a hk) | (first | refine st_lss hk ?_ ?_ | refine st_leq hk ?_ ?_ | refine st_gtr hk ?_ ?_ | refine st_geq hk ?_ ?_ | refine st_eqi hk ?_ ?_ | refine st_nei hk ?_ ?_ | refine st_eqS hk ?_ ?_ | refine st_neS hk ?_ ?_ | refine st_cmpS hk ?_ ?_ | refine st_eqs hk ?_ ?_ | refine st_nes hk ?_ ?_) <;> (intro hp; clear hk a; intro a hk) | (first | refine st_box hk hS ?_ | refine st_alloc hk hS ?_); clear hk hS a; intro w b hS a hk | (first | refine st_store hk hS ?_ | refine st_stI hk hS ?_ | refine st_stB hk hS ?_ | refine st_stS hk hS ?_); clear hk hS a; intro w hS a hk | (first | refine st_bs1I hk hS ?_ | refine st_bs1S hk hS ?_ | refine st_app1 hk hS ?_ | refine st_appE hk hS ?_); clear hk hS a; intro w v hS a hk | fail) | refine wpIn_seq ?_ | refine wpIn_block ?_ | refine wpIn_region_lit ?_ | refine q_then ?_ | refine q_thenE ?_ | refine q_thenR ?_ | refine q_inN ?_ | refine q_inR ?_ | refine q_inE ?_ | refine q_inO ?_ | refine wpIn_skip ?_ | refine wpIn_ret ?_ | refine wpIn_exit ?_ | (refine s_end hk ?_; clear hk a; intro a hk) | refine c_true hk ?_ | refine c_false hk ?_ | fail))
  refine sg hk (g_callO hk (hf := by kernel_rfl) (hc := awake04_any _) (h := ?_)); clear hk a; rintro _ w ⟨rfl, hS1⟩ a hk; replace hS := hS.call0 hS1; clear hS1
  (repeat' (first | (show wpListIn _ _ _ _ _ (_ :: _) _ _; first | (refine st hk ?_; clear hk a; intro a hk) | (refine st_skip hk ?_; clear hk a; intro a hk) | (refine s_skip0 hk ?_; clear hk a; intro a hk) | (first | refine st_lss hk ?_ ?_ | refine st_leq hk ?_ ?_ | refine st_gtr hk ?_ ?_ | refine st_geq hk ?_ ?_ | refine st_eqi hk ?_ ?_ | refine st_nei hk ?_ ?_ | refine st_eqS hk ?_ ?_ | refine st_neS hk ?_ ?_ | refine st_cmpS hk ?_ ?_ | refine st_eqs hk ?_ ?_ | refine st_nes hk ?_ ?_) <;> (intro hp; clear hk a; intro a hk) | (first | refine st_box hk hS ?_ | refine st_alloc hk hS ?_); clear hk hS a; intro w b hS a hk | (first | refine st_store hk hS ?_ | refine st_stI hk hS ?_ | refine st_stB hk hS ?_ | refine st_stS hk hS ?_); clear hk hS a; intro w hS a hk | (first | refine st_bs1I hk hS ?_ | refine st_bs1S hk hS ?_ | refine st_app1 hk hS ?_ | refine st_appE hk hS ?_); clear hk hS a; intro w v hS a hk | fail) | refine wpIn_seq ?_ | refine wpIn_block ?_ | refine wpIn_region_lit ?_ | refine q_then ?_ | refine q_thenE ?_ | refine q_thenR ?_ | refine q_inN ?_ | refine q_inR ?_ | refine q_inE ?_ | refine q_inO ?_ | refine wpIn_skip ?_ | refine wpIn_ret ?_ | refine wpIn_exit ?_ | (refine s_end hk ?_; clear hk a; intro a hk) | refine c_true hk ?_ | refine c_false hk ?_ | fail))
  refine sg hk (g_callO hk (hf := by kernel_rfl) (hc := few04_any la 10 (by omega) va _ (hS.rdT ha)) (h := ?_)); clear hk a; rintro v0 w hS1 a hk; replace hS := hS.call hS1; clear hS1
  (repeat' (first | (show wpListIn _ _ _ _ _ (_ :: _) _ _; first | (refine st hk ?_; clear hk a; intro a hk) | (refine st_skip hk ?_; clear hk a; intro a hk) | (refine s_skip0 hk ?_; clear hk a; intro a hk) | (first | refine st_lss hk ?_ ?_ | refine st_leq hk ?_ ?_ | refine st_gtr hk ?_ ?_ | refine st_geq hk ?_ ?_ | refine st_eqi hk ?_ ?_ | refine st_nei hk ?_ ?_ | refine st_eqS hk ?_ ?_ | refine st_neS hk ?_ ?_ | refine st_cmpS hk ?_ ?_ | refine st_eqs hk ?_ ?_ | refine st_nes hk ?_ ?_) <;> (intro hp; clear hk a; intro a hk) | (first | refine st_box hk hS ?_ | refine st_alloc hk hS ?_); clear hk hS a; intro w b hS a hk | (first | refine st_store hk hS ?_ | refine st_stI hk hS ?_ | refine st_stB hk hS ?_ | refine st_stS hk hS ?_); clear hk hS a; intro w hS a hk | (first | refine st_bs1I hk hS ?_ | refine st_bs1S hk hS ?_ | refine st_app1 hk hS ?_ | refine st_appE hk hS ?_); clear hk hS a; intro w v hS a hk | fail) | refine wpIn_seq ?_ | refine wpIn_block ?_ | refine wpIn_region_lit ?_ | refine q_then ?_ | refine q_thenE ?_ | refine q_thenR ?_ | refine q_inN ?_ | refine q_inR ?_ | refine q_inE ?_ | refine q_inO ?_ | refine wpIn_skip ?_ | refine wpIn_ret ?_ | refine wpIn_exit ?_ | (refine s_end hk ?_; clear hk a; intro a hk) | refine c_true hk ?_ | refine c_false hk ?_ | fail))
  refine sg hk (g_callO hk (hf := by kernel_rfl) (hc := few04_any lb 10 (by omega) vb _ (hS.rdT hb)) (h := ?_)); clear hk a; rintro v1 w hS1 a hk; replace hS := hS.call hS1; clear hS1
  rw [List.cons_append, List.nil_append] at hS
  have hla := few04_len la 10
  have hlb := few04_len lb 10
  replace hra := hra.few 10
  replace hrb := hrb.few 10
  generalize few04 la 10 = a0 at *
  generalize few04 lb 10 = b0 at *
  have hsa := snap_len nmI a0
  have hsb := snap_len nmI b0
  have hta := txt_len a0
  have htb := txt_len b0
  have hap := apply_turn a0 b0
  have hapS := txt_apply a0 (turnI a0 b0)
  rw [hap] at hapS
  have htR := turn_inR (a := a0) hrb
  have hTl : (turnI a0 b0).length ≤ 20 := by
    have h1 := turn1I_len (snapF nmI b0) (snapF nmI a0)
    have h2 := turn2I_len (snapF nmI a0) (snapF nmI b0)
    unfold turnI
    rw [List.length_append]
    omega
  have hrs := hrb.snap
  (repeat' (first | (show wpListIn _ _ _ _ _ (_ :: _) _ _; first | (refine st hk ?_; clear hk a; intro a hk) | (refine st_skip hk ?_; clear hk a; intro a hk) | (refine s_skip0 hk ?_; clear hk a; intro a hk) | (first | refine st_lss hk ?_ ?_ | refine st_leq hk ?_ ?_ | refine st_gtr hk ?_ ?_ | refine st_geq hk ?_ ?_ | refine st_eqi hk ?_ ?_ | refine st_nei hk ?_ ?_ | refine st_eqS hk ?_ ?_ | refine st_neS hk ?_ ?_ | refine st_cmpS hk ?_ ?_ | refine st_eqs hk ?_ ?_ | refine st_nes hk ?_ ?_) <;> (intro hp; clear hk a; intro a hk) | (first | refine st_box hk hS ?_ | refine st_alloc hk hS ?_); clear hk hS a; intro w b hS a hk | (first | refine st_store hk hS ?_ | refine st_stI hk hS ?_ | refine st_stB hk hS ?_ | refine st_stS hk hS ?_); clear hk hS a; intro w hS a hk | (first | refine st_bs1I hk hS ?_ | refine st_bs1S hk hS ?_ | refine st_app1 hk hS ?_ | refine st_appE hk hS ?_); clear hk hS a; intro w v hS a hk | fail) | refine wpIn_seq ?_ | refine wpIn_block ?_ | refine wpIn_region_lit ?_ | refine q_then ?_ | refine q_thenE ?_ | refine q_thenR ?_ | refine q_inN ?_ | refine q_inR ?_ | refine q_inE ?_ | refine q_inO ?_ | refine wpIn_skip ?_ | refine wpIn_ret ?_ | refine wpIn_exit ?_ | (refine s_end hk ?_; clear hk a; intro a hk) | refine c_true hk ?_ | refine c_false hk ?_ | fail))
  refine sg hk (g_callO hk (hf := by kernel_rfl) (hc := own04_any a0 v0 _ (by first | exact St.rdT hS (by assumption) | exact OwT.rd (hS.rd (A := OwT _ _ _) (by (repeat (first | exact At.here | apply At.there)))) | assumption) (by omega)) (h := ?_)); clear hk a; rintro vo1 w hS1 a hk; replace hS := hS.call hS1; clear hS1
  (repeat' (first | (show wpListIn _ _ _ _ _ (_ :: _) _ _; first | (refine st hk ?_; clear hk a; intro a hk) | (refine st_skip hk ?_; clear hk a; intro a hk) | (refine s_skip0 hk ?_; clear hk a; intro a hk) | (first | refine st_lss hk ?_ ?_ | refine st_leq hk ?_ ?_ | refine st_gtr hk ?_ ?_ | refine st_geq hk ?_ ?_ | refine st_eqi hk ?_ ?_ | refine st_nei hk ?_ ?_ | refine st_eqS hk ?_ ?_ | refine st_neS hk ?_ ?_ | refine st_cmpS hk ?_ ?_ | refine st_eqs hk ?_ ?_ | refine st_nes hk ?_ ?_) <;> (intro hp; clear hk a; intro a hk) | (first | refine st_box hk hS ?_ | refine st_alloc hk hS ?_); clear hk hS a; intro w b hS a hk | (first | refine st_store hk hS ?_ | refine st_stI hk hS ?_ | refine st_stB hk hS ?_ | refine st_stS hk hS ?_); clear hk hS a; intro w hS a hk | (first | refine st_bs1I hk hS ?_ | refine st_bs1S hk hS ?_ | refine st_app1 hk hS ?_ | refine st_appE hk hS ?_); clear hk hS a; intro w v hS a hk | fail) | refine wpIn_seq ?_ | refine wpIn_block ?_ | refine wpIn_region_lit ?_ | refine q_then ?_ | refine q_thenE ?_ | refine q_thenR ?_ | refine q_inN ?_ | refine q_inR ?_ | refine q_inE ?_ | refine q_inO ?_ | refine wpIn_skip ?_ | refine wpIn_ret ?_ | refine wpIn_exit ?_ | (refine s_end hk ?_; clear hk a; intro a hk) | refine c_true hk ?_ | refine c_false hk ?_ | fail))
  refine sg hk (g_callO hk (hf := by kernel_rfl) (hc := own04_any b0 v1 _ (by first | exact St.rdT hS (by assumption) | exact OwT.rd (hS.rd (A := OwT _ _ _) (by (repeat (first | exact At.here | apply At.there)))) | assumption) (by omega)) (h := ?_)); clear hk a; rintro vo2 w hS1 a hk; replace hS := hS.call hS1; clear hS1
  rw [List.cons_append, List.nil_append, List.cons_append, List.nil_append] at hS
  refine sg hk (g_callO hk (hf := by kernel_rfl) (hc := turnI_any a0 b0 vo1 vo2 _ (by first | exact St.rdT hS (by assumption) | exact OwT.rd (hS.rd (A := OwT _ _ _) (by (repeat (first | exact At.here | apply At.there)))) | assumption) (by first | exact St.rdT hS (by assumption) | exact OwT.rd (hS.rd (A := OwT _ _ _) (by (repeat (first | exact At.here | apply At.there)))) | assumption) (by omega) (by omega)) (h := ?_)); clear hk a; rintro vl w hS1 a hk; replace hS := hS.call hS1; clear hS1
  rw [List.cons_append, List.nil_append] at hS
  (repeat' (first | (show wpListIn _ _ _ _ _ (_ :: _) _ _; first | (refine st hk ?_; clear hk a; intro a hk) | (refine st_skip hk ?_; clear hk a; intro a hk) | (refine s_skip0 hk ?_; clear hk a; intro a hk) | (first | refine st_lss hk ?_ ?_ | refine st_leq hk ?_ ?_ | refine st_gtr hk ?_ ?_ | refine st_geq hk ?_ ?_ | refine st_eqi hk ?_ ?_ | refine st_nei hk ?_ ?_ | refine st_eqS hk ?_ ?_ | refine st_neS hk ?_ ?_ | refine st_cmpS hk ?_ ?_ | refine st_eqs hk ?_ ?_ | refine st_nes hk ?_ ?_) <;> (intro hp; clear hk a; intro a hk) | (first | refine st_box hk hS ?_ | refine st_alloc hk hS ?_); clear hk hS a; intro w b hS a hk | (first | refine st_store hk hS ?_ | refine st_stI hk hS ?_ | refine st_stB hk hS ?_ | refine st_stS hk hS ?_); clear hk hS a; intro w hS a hk | (first | refine st_bs1I hk hS ?_ | refine st_bs1S hk hS ?_ | refine st_app1 hk hS ?_ | refine st_appE hk hS ?_); clear hk hS a; intro w v hS a hk | fail) | refine wpIn_seq ?_ | refine wpIn_block ?_ | refine wpIn_region_lit ?_ | refine q_then ?_ | refine q_thenE ?_ | refine q_thenR ?_ | refine q_inN ?_ | refine q_inR ?_ | refine q_inE ?_ | refine q_inO ?_ | refine wpIn_skip ?_ | refine wpIn_ret ?_ | refine wpIn_exit ?_ | (refine s_end hk ?_; clear hk a; intro a hk) | refine c_true hk ?_ | refine c_false hk ?_ | fail))
  refine sg hk (g_callO hk (hf := by kernel_rfl) (hc := texts_any a0 hra v0 _ (ht.mono hS.below) (by first | exact St.rdT hS (by assumption) | exact OwT.rd (hS.rd (A := OwT _ _ _) (by (repeat (first | exact At.here | apply At.there)))) | assumption) (by omega)) (h := ?_)); clear hk a; rintro vt1 w hS1 a hk; replace hS := hS.call hS1; clear hS1
  rw [List.cons_append, List.nil_append] at hS
  (repeat' (first | (show wpListIn _ _ _ _ _ (_ :: _) _ _; first | (refine st hk ?_; clear hk a; intro a hk) | (refine st_skip hk ?_; clear hk a; intro a hk) | (refine s_skip0 hk ?_; clear hk a; intro a hk) | (first | refine st_lss hk ?_ ?_ | refine st_leq hk ?_ ?_ | refine st_gtr hk ?_ ?_ | refine st_geq hk ?_ ?_ | refine st_eqi hk ?_ ?_ | refine st_nei hk ?_ ?_ | refine st_eqS hk ?_ ?_ | refine st_neS hk ?_ ?_ | refine st_cmpS hk ?_ ?_ | refine st_eqs hk ?_ ?_ | refine st_nes hk ?_ ?_) <;> (intro hp; clear hk a; intro a hk) | (first | refine st_box hk hS ?_ | refine st_alloc hk hS ?_); clear hk hS a; intro w b hS a hk | (first | refine st_store hk hS ?_ | refine st_stI hk hS ?_ | refine st_stB hk hS ?_ | refine st_stS hk hS ?_); clear hk hS a; intro w hS a hk | (first | refine st_bs1I hk hS ?_ | refine st_bs1S hk hS ?_ | refine st_app1 hk hS ?_ | refine st_appE hk hS ?_); clear hk hS a; intro w v hS a hk | fail) | refine wpIn_seq ?_ | refine wpIn_block ?_ | refine wpIn_region_lit ?_ | refine q_then ?_ | refine q_thenE ?_ | refine q_thenR ?_ | refine q_inN ?_ | refine q_inR ?_ | refine q_inE ?_ | refine q_inO ?_ | refine wpIn_skip ?_ | refine wpIn_ret ?_ | refine wpIn_exit ?_ | (refine s_end hk ?_; clear hk a; intro a hk) | refine c_true hk ?_ | refine c_false hk ?_ | fail))
  refine sg hk (g_callO hk (hf := by kernel_rfl) (hc := texts_any b0 hrb v1 _ (ht.mono hS.below) (by first | exact St.rdT hS (by assumption) | exact OwT.rd (hS.rd (A := OwT _ _ _) (by (repeat (first | exact At.here | apply At.there)))) | assumption) (by omega)) (h := ?_)); clear hk a; rintro vt2 w hS1 a hk; replace hS := hS.call hS1; clear hS1
  rw [List.cons_append, List.nil_append] at hS
  refine sg hk (g_callO hk (hf := by kernel_rfl) (hc := turnS_any (txtF a0) (txtF b0) vt1 vt2 _ (by first | exact St.rdT hS (by assumption) | exact OwT.rd (hS.rd (A := OwT _ _ _) (by (repeat (first | exact At.here | apply At.there)))) | assumption) (by first | exact St.rdT hS (by assumption) | exact OwT.rd (hS.rd (A := OwT _ _ _) (by (repeat (first | exact At.here | apply At.there)))) | assumption) (by omega) (by omega)) (h := ?_)); clear hk a; rintro vs w hS1 a hk; replace hS := hS.call hS1; clear hS1
  rw [List.cons_append, List.nil_append, txt_turn] at hS
  (repeat' (first | (show wpListIn _ _ _ _ _ (_ :: _) _ _; first | (refine st hk ?_; clear hk a; intro a hk) | (refine st_skip hk ?_; clear hk a; intro a hk) | (refine s_skip0 hk ?_; clear hk a; intro a hk) | (first | refine st_lss hk ?_ ?_ | refine st_leq hk ?_ ?_ | refine st_gtr hk ?_ ?_ | refine st_geq hk ?_ ?_ | refine st_eqi hk ?_ ?_ | refine st_nei hk ?_ ?_ | refine st_eqS hk ?_ ?_ | refine st_neS hk ?_ ?_ | refine st_cmpS hk ?_ ?_ | refine st_eqs hk ?_ ?_ | refine st_nes hk ?_ ?_) <;> (intro hp; clear hk a; intro a hk) | (first | refine st_box hk hS ?_ | refine st_alloc hk hS ?_); clear hk hS a; intro w b hS a hk | (first | refine st_store hk hS ?_ | refine st_stI hk hS ?_ | refine st_stB hk hS ?_ | refine st_stS hk hS ?_); clear hk hS a; intro w hS a hk | (first | refine st_bs1I hk hS ?_ | refine st_bs1S hk hS ?_ | refine st_app1 hk hS ?_ | refine st_appE hk hS ?_); clear hk hS a; intro w v hS a hk | fail) | refine wpIn_seq ?_ | refine wpIn_block ?_ | refine wpIn_region_lit ?_ | refine q_then ?_ | refine q_thenE ?_ | refine q_thenR ?_ | refine q_inN ?_ | refine q_inR ?_ | refine q_inE ?_ | refine q_inO ?_ | refine wpIn_skip ?_ | refine wpIn_ret ?_ | refine wpIn_exit ?_ | (refine s_end hk ?_; clear hk a; intro a hk) | refine c_true hk ?_ | refine c_false hk ?_ | fail))
  refine sg hk (g_callO hk (hf := by kernel_rfl) (hc := refTurn_any a0 b0 v0 v1 _ (by first | exact St.rdT hS (by assumption) | exact OwT.rd (hS.rd (A := OwT _ _ _) (by (repeat (first | exact At.here | apply At.there)))) | assumption) (by first | exact St.rdT hS (by assumption) | exact OwT.rd (hS.rd (A := OwT _ _ _) (by (repeat (first | exact At.here | apply At.there)))) | assumption) (by omega) (by omega)) (h := ?_)); clear hk a; rintro vr w hS1 a hk; replace hS := hS.call hS1; clear hS1
  rw [List.cons_append, List.nil_append] at hS
  generalize turnI a0 b0 = T at *
  have hml : (T.map stT).length = T.length := List.length_map _
  replace hS : St w0 [OwT 84 T vr, OwT 87 (T.map stT) vs, OwT 85 T vl, OwT 51 a0 v0, OwT 51 b0 v1] w := hS.sb
  (repeat' (first | (show wpListIn _ _ _ _ _ (_ :: _) _ _; first | (refine st hk ?_; clear hk a; intro a hk) | (refine st_skip hk ?_; clear hk a; intro a hk) | (refine s_skip0 hk ?_; clear hk a; intro a hk) | (first | refine st_lss hk ?_ ?_ | refine st_leq hk ?_ ?_ | refine st_gtr hk ?_ ?_ | refine st_geq hk ?_ ?_ | refine st_eqi hk ?_ ?_ | refine st_nei hk ?_ ?_ | refine st_eqS hk ?_ ?_ | refine st_neS hk ?_ ?_ | refine st_cmpS hk ?_ ?_ | refine st_eqs hk ?_ ?_ | refine st_nes hk ?_ ?_) <;> (intro hp; clear hk a; intro a hk) | (first | refine st_box hk hS ?_ | refine st_alloc hk hS ?_); clear hk hS a; intro w b hS a hk | (first | refine st_store hk hS ?_ | refine st_stI hk hS ?_ | refine st_stB hk hS ?_ | refine st_stS hk hS ?_); clear hk hS a; intro w hS a hk | (first | refine st_bs1I hk hS ?_ | refine st_bs1S hk hS ?_ | refine st_app1 hk hS ?_ | refine st_appE hk hS ?_); clear hk hS a; intro w v hS a hk | fail) | refine wpIn_seq ?_ | refine wpIn_block ?_ | refine wpIn_region_lit ?_ | refine q_then ?_ | refine q_thenE ?_ | refine q_thenR ?_ | refine q_inN ?_ | refine q_inR ?_ | refine q_inE ?_ | refine q_inO ?_ | refine wpIn_skip ?_ | refine wpIn_ret ?_ | refine wpIn_exit ?_ | (refine s_end hk ?_; clear hk a; intro a hk) | refine c_true hk ?_ | refine c_false hk ?_ | fail))
  replace hk := Kn.kp [0, 1, 5, 6, 42, 43, 44] hk
  refine wp_for T.length (fun i _ => [(44, .int .i64 (i : Int))]) (fun _ _ => [OwT 84 T vr, OwT 87 (T.map stT) vs, OwT 85 T vl, OwT 51 a0 v0, OwT 51 b0 v1]) (fun _ _ => True) () hk (by repeat (first | exact trivial | refine ⟨rfl, ?_⟩)) hS.sb trivial ?_
  clear hk hS a
  rintro i - a w hi hk hS -
  by_cases hil : i < T.length
  · obtain ⟨⟨d, k, x⟩, hx⟩ : ∃ x, T[i]? = some x := ⟨_, List.getElem?_eq_getElem hil⟩
    obtain ⟨b0', b1'⟩ := htR _ (List.mem_of_getElem? hx)
    simp only at b0' b1'
    have hx2 : (T.map stT)[i]? = some (stT (d, k, x)) := by rw [List.getElem?_map, hx]; rfl
    cases d with
    | true =>
      have hx3 : (T.map stT)[i]? = some (true, k, ⟨#[]⟩) := hx2
      clear hx2
      (repeat' (first | (show wpListIn _ _ _ _ _ (_ :: _) _ _; first | (refine st hk ?_; clear hk a; intro a hk) | (refine st_skip hk ?_; clear hk a; intro a hk) | (refine s_skip0 hk ?_; clear hk a; intro a hk) | (first | refine st_lss hk ?_ ?_ | refine st_leq hk ?_ ?_ | refine st_gtr hk ?_ ?_ | refine st_geq hk ?_ ?_ | refine st_eqi hk ?_ ?_ | refine st_nei hk ?_ ?_ | refine st_eqS hk ?_ ?_ | refine st_neS hk ?_ ?_ | refine st_cmpS hk ?_ ?_ | refine st_eqs hk ?_ ?_ | refine st_nes hk ?_ ?_) <;> (intro hp; clear hk a; intro a hk) | (first | refine st_box hk hS ?_ | refine st_alloc hk hS ?_); clear hk hS a; intro w b hS a hk | (first | refine st_store hk hS ?_ | refine st_stI hk hS ?_ | refine st_stB hk hS ?_ | refine st_stS hk hS ?_); clear hk hS a; intro w hS a hk | (first | refine st_bs1I hk hS ?_ | refine st_bs1S hk hS ?_ | refine st_app1 hk hS ?_ | refine st_appE hk hS ?_); clear hk hS a; intro w v hS a hk | fail) | refine wpIn_seq ?_ | refine wpIn_block ?_ | refine wpIn_region_lit ?_ | refine q_then ?_ | refine q_thenE ?_ | refine q_thenR ?_ | refine q_inN ?_ | refine q_inR ?_ | refine q_inE ?_ | refine q_inO ?_ | refine wpIn_skip ?_ | refine wpIn_ret ?_ | refine wpIn_exit ?_ | (refine s_end hk ?_; clear hk a; intro a hk) | refine c_true hk ?_ | refine c_false hk ?_ | fail))
      refine sg hk (g_callO hk (hf := by kernel_rfl) (hc := itoa_any x b0' b1' _ (ht.mono hS.below)) (h := ?_)); clear hk a; rintro _ w ⟨rfl, hS1⟩ a hk; replace hS := hS.call0 hS1; clear hS1
      (repeat' (first | (show wpListIn _ _ _ _ _ (_ :: _) _ _; first | (refine st hk ?_; clear hk a; intro a hk) | (refine st_skip hk ?_; clear hk a; intro a hk) | (refine s_skip0 hk ?_; clear hk a; intro a hk) | (first | refine st_lss hk ?_ ?_ | refine st_leq hk ?_ ?_ | refine st_gtr hk ?_ ?_ | refine st_geq hk ?_ ?_ | refine st_eqi hk ?_ ?_ | refine st_nei hk ?_ ?_ | refine st_eqS hk ?_ ?_ | refine st_neS hk ?_ ?_ | refine st_cmpS hk ?_ ?_ | refine st_eqs hk ?_ ?_ | refine st_nes hk ?_ ?_) <;> (intro hp; clear hk a; intro a hk) | (first | refine st_box hk hS ?_ | refine st_alloc hk hS ?_); clear hk hS a; intro w b hS a hk | (first | refine st_store hk hS ?_ | refine st_stI hk hS ?_ | refine st_stB hk hS ?_ | refine st_stS hk hS ?_); clear hk hS a; intro w hS a hk | (first | refine st_bs1I hk hS ?_ | refine st_bs1S hk hS ?_ | refine st_app1 hk hS ?_ | refine st_appE hk hS ?_); clear hk hS a; intro w v hS a hk | fail) | refine wpIn_seq ?_ | refine wpIn_block ?_ | refine wpIn_region_lit ?_ | refine q_then ?_ | refine q_thenE ?_ | refine q_thenR ?_ | refine q_inN ?_ | refine q_inR ?_ | refine q_inE ?_ | refine q_inO ?_ | refine wpIn_skip ?_ | refine wpIn_ret ?_ | refine wpIn_exit ?_ | (refine s_end hk ?_; clear hk a; intro a hk) | refine c_true hk ?_ | refine c_false hk ?_ | fail))
      refine wp_drawn 19 mixed (by kernel_rfl) hk hS ?_; clear hk hS a
      (repeat' (first | (show ObxE _ _ _ _ _ _ _ _ _ (_ :: _) _ _ _; first | refine ob_v ?_ | refine obe_skip ?_ | (first | refine ob_lss ?_ ?_ | refine ob_leq ?_ ?_ | refine ob_gtr ?_ ?_ | refine ob_geq ?_ ?_ | refine ob_eqi ?_ ?_ | refine ob_nei ?_ ?_ | refine ob_eqS ?_ ?_ | refine ob_neS ?_ ?_ | refine ob_cmpS ?_ ?_ | refine ob_eqs ?_ ?_ | refine ob_nes ?_ ?_) <;> intro hp | fail) | fail))
      all_goals first
        | (rename_i hp; exact absurd ((eqC_self _).symm.trans hp) (by decide))
        | skip
      refine obe_nil ⟨rfl, ?_⟩; intro us a w hk hS
      (repeat' (first | (show wpListIn _ _ _ _ _ (_ :: _) _ _; first | (refine st hk ?_; clear hk a; intro a hk) | (refine st_skip hk ?_; clear hk a; intro a hk) | (refine s_skip0 hk ?_; clear hk a; intro a hk) | (first | refine st_lss hk ?_ ?_ | refine st_leq hk ?_ ?_ | refine st_gtr hk ?_ ?_ | refine st_geq hk ?_ ?_ | refine st_eqi hk ?_ ?_ | refine st_nei hk ?_ ?_ | refine st_eqS hk ?_ ?_ | refine st_neS hk ?_ ?_ | refine st_cmpS hk ?_ ?_ | refine st_eqs hk ?_ ?_ | refine st_nes hk ?_ ?_) <;> (intro hp; clear hk a; intro a hk) | (first | refine st_box hk hS ?_ | refine st_alloc hk hS ?_); clear hk hS a; intro w b hS a hk | (first | refine st_store hk hS ?_ | refine st_stI hk hS ?_ | refine st_stB hk hS ?_ | refine st_stS hk hS ?_); clear hk hS a; intro w hS a hk | (first | refine st_bs1I hk hS ?_ | refine st_bs1S hk hS ?_ | refine st_app1 hk hS ?_ | refine st_appE hk hS ?_); clear hk hS a; intro w v hS a hk | fail) | refine wpIn_seq ?_ | refine wpIn_block ?_ | refine wpIn_region_lit ?_ | refine q_then ?_ | refine q_thenE ?_ | refine q_thenR ?_ | refine q_inN ?_ | refine q_inR ?_ | refine q_inE ?_ | refine q_inO ?_ | refine wpIn_skip ?_ | refine wpIn_ret ?_ | refine wpIn_exit ?_ | (refine s_end hk ?_; clear hk a; intro a hk) | refine c_true hk ?_ | refine c_false hk ?_ | fail))
      exact ⟨hil, (), hk.sd, hS.sb, trivial⟩
    | false =>
      have hx3 : (T.map stT)[i]? = some (false, k, itoS x) := hx2
      clear hx2
      (repeat' (first | (show wpListIn _ _ _ _ _ (_ :: _) _ _; first | (refine st hk ?_; clear hk a; intro a hk) | (refine st_skip hk ?_; clear hk a; intro a hk) | (refine s_skip0 hk ?_; clear hk a; intro a hk) | (first | refine st_lss hk ?_ ?_ | refine st_leq hk ?_ ?_ | refine st_gtr hk ?_ ?_ | refine st_geq hk ?_ ?_ | refine st_eqi hk ?_ ?_ | refine st_nei hk ?_ ?_ | refine st_eqS hk ?_ ?_ | refine st_neS hk ?_ ?_ | refine st_cmpS hk ?_ ?_ | refine st_eqs hk ?_ ?_ | refine st_nes hk ?_ ?_) <;> (intro hp; clear hk a; intro a hk) | (first | refine st_box hk hS ?_ | refine st_alloc hk hS ?_); clear hk hS a; intro w b hS a hk | (first | refine st_store hk hS ?_ | refine st_stI hk hS ?_ | refine st_stB hk hS ?_ | refine st_stS hk hS ?_); clear hk hS a; intro w hS a hk | (first | refine st_bs1I hk hS ?_ | refine st_bs1S hk hS ?_ | refine st_app1 hk hS ?_ | refine st_appE hk hS ?_); clear hk hS a; intro w v hS a hk | fail) | refine wpIn_seq ?_ | refine wpIn_block ?_ | refine wpIn_region_lit ?_ | refine q_then ?_ | refine q_thenE ?_ | refine q_thenR ?_ | refine q_inN ?_ | refine q_inR ?_ | refine q_inE ?_ | refine q_inO ?_ | refine wpIn_skip ?_ | refine wpIn_ret ?_ | refine wpIn_exit ?_ | (refine s_end hk ?_; clear hk a; intro a hk) | refine c_true hk ?_ | refine c_false hk ?_ | fail))
      refine sg hk (g_callO hk (hf := by kernel_rfl) (hc := itoa_any x b0' b1' _ (ht.mono hS.below)) (h := ?_)); clear hk a; rintro _ w ⟨rfl, hS1⟩ a hk; replace hS := hS.call0 hS1; clear hS1
      (repeat' (first | (show wpListIn _ _ _ _ _ (_ :: _) _ _; first | (refine st hk ?_; clear hk a; intro a hk) | (refine st_skip hk ?_; clear hk a; intro a hk) | (refine s_skip0 hk ?_; clear hk a; intro a hk) | (first | refine st_lss hk ?_ ?_ | refine st_leq hk ?_ ?_ | refine st_gtr hk ?_ ?_ | refine st_geq hk ?_ ?_ | refine st_eqi hk ?_ ?_ | refine st_nei hk ?_ ?_ | refine st_eqS hk ?_ ?_ | refine st_neS hk ?_ ?_ | refine st_cmpS hk ?_ ?_ | refine st_eqs hk ?_ ?_ | refine st_nes hk ?_ ?_) <;> (intro hp; clear hk a; intro a hk) | (first | refine st_box hk hS ?_ | refine st_alloc hk hS ?_); clear hk hS a; intro w b hS a hk | (first | refine st_store hk hS ?_ | refine st_stI hk hS ?_ | refine st_stB hk hS ?_ | refine st_stS hk hS ?_); clear hk hS a; intro w hS a hk | (first | refine st_bs1I hk hS ?_ | refine st_bs1S hk hS ?_ | refine st_app1 hk hS ?_ | refine st_appE hk hS ?_); clear hk hS a; intro w v hS a hk | fail) | refine wpIn_seq ?_ | refine wpIn_block ?_ | refine wpIn_region_lit ?_ | refine q_then ?_ | refine q_thenE ?_ | refine q_thenR ?_ | refine q_inN ?_ | refine q_inR ?_ | refine q_inE ?_ | refine q_inO ?_ | refine wpIn_skip ?_ | refine wpIn_ret ?_ | refine wpIn_exit ?_ | (refine s_end hk ?_; clear hk a; intro a hk) | refine c_true hk ?_ | refine c_false hk ?_ | fail))
      refine wp_drawn 19 mixed (by kernel_rfl) hk hS ?_; clear hk hS a
      (repeat' (first | (show ObxE _ _ _ _ _ _ _ _ _ (_ :: _) _ _ _; first | refine ob_v ?_ | refine obe_skip ?_ | (first | refine ob_lss ?_ ?_ | refine ob_leq ?_ ?_ | refine ob_gtr ?_ ?_ | refine ob_geq ?_ ?_ | refine ob_eqi ?_ ?_ | refine ob_nei ?_ ?_ | refine ob_eqS ?_ ?_ | refine ob_neS ?_ ?_ | refine ob_cmpS ?_ ?_ | refine ob_eqs ?_ ?_ | refine ob_nes ?_ ?_) <;> intro hp | fail) | fail))
      all_goals first
        | (rename_i hp; exact absurd ((eqC_self _).symm.trans hp) (by decide))
        | skip
      refine obe_nil ⟨rfl, ?_⟩; intro us a w hk hS
      (repeat' (first | (show wpListIn _ _ _ _ _ (_ :: _) _ _; first | (refine st hk ?_; clear hk a; intro a hk) | (refine st_skip hk ?_; clear hk a; intro a hk) | (refine s_skip0 hk ?_; clear hk a; intro a hk) | (first | refine st_lss hk ?_ ?_ | refine st_leq hk ?_ ?_ | refine st_gtr hk ?_ ?_ | refine st_geq hk ?_ ?_ | refine st_eqi hk ?_ ?_ | refine st_nei hk ?_ ?_ | refine st_eqS hk ?_ ?_ | refine st_neS hk ?_ ?_ | refine st_cmpS hk ?_ ?_ | refine st_eqs hk ?_ ?_ | refine st_nes hk ?_ ?_) <;> (intro hp; clear hk a; intro a hk) | (first | refine st_box hk hS ?_ | refine st_alloc hk hS ?_); clear hk hS a; intro w b hS a hk | (first | refine st_store hk hS ?_ | refine st_stI hk hS ?_ | refine st_stB hk hS ?_ | refine st_stS hk hS ?_); clear hk hS a; intro w hS a hk | (first | refine st_bs1I hk hS ?_ | refine st_bs1S hk hS ?_ | refine st_app1 hk hS ?_ | refine st_appE hk hS ?_); clear hk hS a; intro w v hS a hk | fail) | refine wpIn_seq ?_ | refine wpIn_block ?_ | refine wpIn_region_lit ?_ | refine q_then ?_ | refine q_thenE ?_ | refine q_thenR ?_ | refine q_inN ?_ | refine q_inR ?_ | refine q_inE ?_ | refine q_inO ?_ | refine wpIn_skip ?_ | refine wpIn_ret ?_ | refine wpIn_exit ?_ | (refine s_end hk ?_; clear hk a; intro a hk) | refine c_true hk ?_ | refine c_false hk ?_ | fail))
      exact ⟨hil, (), hk.sd, hS.sb, trivial⟩
  · have : i = T.length := by omega
    subst this
    (repeat' (first | (show wpListIn _ _ _ _ _ (_ :: _) _ _; first | (refine st hk ?_; clear hk a; intro a hk) | (refine st_skip hk ?_; clear hk a; intro a hk) | (refine s_skip0 hk ?_; clear hk a; intro a hk) | (first | refine st_lss hk ?_ ?_ | refine st_leq hk ?_ ?_ | refine st_gtr hk ?_ ?_ | refine st_geq hk ?_ ?_ | refine st_eqi hk ?_ ?_ | refine st_nei hk ?_ ?_ | refine st_eqS hk ?_ ?_ | refine st_neS hk ?_ ?_ | refine st_cmpS hk ?_ ?_ | refine st_eqs hk ?_ ?_ | refine st_nes hk ?_ ?_) <;> (intro hp; clear hk a; intro a hk) | (first | refine st_box hk hS ?_ | refine st_alloc hk hS ?_); clear hk hS a; intro w b hS a hk | (first | refine st_store hk hS ?_ | refine st_stI hk hS ?_ | refine st_stB hk hS ?_ | refine st_stS hk hS ?_); clear hk hS a; intro w hS a hk | (first | refine st_bs1I hk hS ?_ | refine st_bs1S hk hS ?_ | refine st_app1 hk hS ?_ | refine st_appE hk hS ?_); clear hk hS a; intro w v hS a hk | fail) | refine wpIn_seq ?_ | refine wpIn_block ?_ | refine wpIn_region_lit ?_ | refine q_then ?_ | refine q_thenE ?_ | refine q_thenR ?_ | refine q_inN ?_ | refine q_inR ?_ | refine q_inE ?_ | refine q_inO ?_ | refine wpIn_skip ?_ | refine wpIn_ret ?_ | refine wpIn_exit ?_ | (refine s_end hk ?_; clear hk a; intro a hk) | refine c_true hk ?_ | refine c_false hk ?_ | fail))
    refine sg hk (g_callO hk (hf := by kernel_rfl) (hc := own04_any a0 v0 _ (by first | exact St.rdT hS (by assumption) | exact OwT.rd (hS.rd (A := OwT _ _ _) (by (repeat (first | exact At.here | apply At.there)))) | assumption) (by omega)) (h := ?_)); clear hk a; rintro vo3 w hS1 a hk; replace hS := hS.call hS1; clear hS1
    rw [List.cons_append, List.nil_append] at hS
    (repeat' (first | (show wpListIn _ _ _ _ _ (_ :: _) _ _; first | (refine st hk ?_; clear hk a; intro a hk) | (refine st_skip hk ?_; clear hk a; intro a hk) | (refine s_skip0 hk ?_; clear hk a; intro a hk) | (first | refine st_lss hk ?_ ?_ | refine st_leq hk ?_ ?_ | refine st_gtr hk ?_ ?_ | refine st_geq hk ?_ ?_ | refine st_eqi hk ?_ ?_ | refine st_nei hk ?_ ?_ | refine st_eqS hk ?_ ?_ | refine st_neS hk ?_ ?_ | refine st_cmpS hk ?_ ?_ | refine st_eqs hk ?_ ?_ | refine st_nes hk ?_ ?_) <;> (intro hp; clear hk a; intro a hk) | (first | refine st_box hk hS ?_ | refine st_alloc hk hS ?_); clear hk hS a; intro w b hS a hk | (first | refine st_store hk hS ?_ | refine st_stI hk hS ?_ | refine st_stB hk hS ?_ | refine st_stS hk hS ?_); clear hk hS a; intro w hS a hk | (first | refine st_bs1I hk hS ?_ | refine st_bs1S hk hS ?_ | refine st_app1 hk hS ?_ | refine st_appE hk hS ?_); clear hk hS a; intro w v hS a hk | fail) | refine wpIn_seq ?_ | refine wpIn_block ?_ | refine wpIn_region_lit ?_ | refine q_then ?_ | refine q_thenE ?_ | refine q_thenR ?_ | refine q_inN ?_ | refine q_inR ?_ | refine q_inE ?_ | refine q_inO ?_ | refine wpIn_skip ?_ | refine wpIn_ret ?_ | refine wpIn_exit ?_ | (refine s_end hk ?_; clear hk a; intro a hk) | refine c_true hk ?_ | refine c_false hk ?_ | fail))
    refine sg hk (g_callO hk (hf := by kernel_rfl) (hc := applyI_any a0 T vo3 vl _ (by first | exact St.rdT hS (by assumption) | exact OwT.rd (hS.rd (A := OwT _ _ _) (by (repeat (first | exact At.here | apply At.there)))) | assumption) (by first | exact St.rdT hS (by assumption) | exact OwT.rd (hS.rd (A := OwT _ _ _) (by (repeat (first | exact At.here | apply At.there)))) | assumption) (by omega) (by omega)) (h := ?_)); clear hk a; rintro vp1 w hS1 a hk; replace hS := hS.call hS1; clear hS1
    rw [List.cons_append, List.nil_append, hap] at hS
    (repeat' (first | (show wpListIn _ _ _ _ _ (_ :: _) _ _; first | (refine st hk ?_; clear hk a; intro a hk) | (refine st_skip hk ?_; clear hk a; intro a hk) | (refine s_skip0 hk ?_; clear hk a; intro a hk) | (first | refine st_lss hk ?_ ?_ | refine st_leq hk ?_ ?_ | refine st_gtr hk ?_ ?_ | refine st_geq hk ?_ ?_ | refine st_eqi hk ?_ ?_ | refine st_nei hk ?_ ?_ | refine st_eqS hk ?_ ?_ | refine st_neS hk ?_ ?_ | refine st_cmpS hk ?_ ?_ | refine st_eqs hk ?_ ?_ | refine st_nes hk ?_ ?_) <;> (intro hp; clear hk a; intro a hk) | (first | refine st_box hk hS ?_ | refine st_alloc hk hS ?_); clear hk hS a; intro w b hS a hk | (first | refine st_store hk hS ?_ | refine st_stI hk hS ?_ | refine st_stB hk hS ?_ | refine st_stS hk hS ?_); clear hk hS a; intro w hS a hk | (first | refine st_bs1I hk hS ?_ | refine st_bs1S hk hS ?_ | refine st_app1 hk hS ?_ | refine st_appE hk hS ?_); clear hk hS a; intro w v hS a hk | fail) | refine wpIn_seq ?_ | refine wpIn_block ?_ | refine wpIn_region_lit ?_ | refine q_then ?_ | refine q_thenE ?_ | refine q_thenR ?_ | refine q_inN ?_ | refine q_inR ?_ | refine q_inE ?_ | refine q_inO ?_ | refine wpIn_skip ?_ | refine wpIn_ret ?_ | refine wpIn_exit ?_ | (refine s_end hk ?_; clear hk a; intro a hk) | refine c_true hk ?_ | refine c_false hk ?_ | fail))
    refine sg hk (g_callO hk (hf := by kernel_rfl) (hc := refOf_any b0 v1 _ (by first | exact St.rdT hS (by assumption) | exact OwT.rd (hS.rd (A := OwT _ _ _) (by (repeat (first | exact At.here | apply At.there)))) | assumption) (by omega)) (h := ?_)); clear hk a; rintro vp2 w hS1 a hk; replace hS := hS.call hS1; clear hS1
    rw [List.cons_append, List.nil_append] at hS
    refine sg hk (g_callO hk (hf := by kernel_rfl) (hc := is04_any _ _ vp1 vp2 _ (by first | exact St.rdT hS (by assumption) | exact OwT.rd (hS.rd (A := OwT _ _ _) (by (repeat (first | exact At.here | apply At.there)))) | assumption) (by first | exact St.rdT hS (by assumption) | exact OwT.rd (hS.rd (A := OwT _ _ _) (by (repeat (first | exact At.here | apply At.there)))) | assumption) (by omega)) (h := ?_)); clear hk a; rintro _ w ⟨rfl, hS1⟩ a hk; replace hS := hS.call0 hS1; clear hS1
    rw [decide_eq_true rfl] at hk
    (repeat' (first | (show wpListIn _ _ _ _ _ (_ :: _) _ _; first | (refine st hk ?_; clear hk a; intro a hk) | (refine st_skip hk ?_; clear hk a; intro a hk) | (refine s_skip0 hk ?_; clear hk a; intro a hk) | (first | refine st_lss hk ?_ ?_ | refine st_leq hk ?_ ?_ | refine st_gtr hk ?_ ?_ | refine st_geq hk ?_ ?_ | refine st_eqi hk ?_ ?_ | refine st_nei hk ?_ ?_ | refine st_eqS hk ?_ ?_ | refine st_neS hk ?_ ?_ | refine st_cmpS hk ?_ ?_ | refine st_eqs hk ?_ ?_ | refine st_nes hk ?_ ?_) <;> (intro hp; clear hk a; intro a hk) | (first | refine st_box hk hS ?_ | refine st_alloc hk hS ?_); clear hk hS a; intro w b hS a hk | (first | refine st_store hk hS ?_ | refine st_stI hk hS ?_ | refine st_stB hk hS ?_ | refine st_stS hk hS ?_); clear hk hS a; intro w hS a hk | (first | refine st_bs1I hk hS ?_ | refine st_bs1S hk hS ?_ | refine st_app1 hk hS ?_ | refine st_appE hk hS ?_); clear hk hS a; intro w v hS a hk | fail) | refine wpIn_seq ?_ | refine wpIn_block ?_ | refine wpIn_region_lit ?_ | refine q_then ?_ | refine q_thenE ?_ | refine q_thenR ?_ | refine q_inN ?_ | refine q_inR ?_ | refine q_inE ?_ | refine q_inO ?_ | refine wpIn_skip ?_ | refine wpIn_ret ?_ | refine wpIn_exit ?_ | (refine s_end hk ?_; clear hk a; intro a hk) | refine c_true hk ?_ | refine c_false hk ?_ | fail))
    refine sg hk (g_callO hk (hf := by kernel_rfl) (hc := texts_any a0 hra v0 _ (ht.mono hS.below) (by first | exact St.rdT hS (by assumption) | exact OwT.rd (hS.rd (A := OwT _ _ _) (by (repeat (first | exact At.here | apply At.there)))) | assumption) (by omega)) (h := ?_)); clear hk a; rintro vt3 w hS1 a hk; replace hS := hS.call hS1; clear hS1
    rw [List.cons_append, List.nil_append] at hS
    (repeat' (first | (show wpListIn _ _ _ _ _ (_ :: _) _ _; first | (refine st hk ?_; clear hk a; intro a hk) | (refine st_skip hk ?_; clear hk a; intro a hk) | (refine s_skip0 hk ?_; clear hk a; intro a hk) | (first | refine st_lss hk ?_ ?_ | refine st_leq hk ?_ ?_ | refine st_gtr hk ?_ ?_ | refine st_geq hk ?_ ?_ | refine st_eqi hk ?_ ?_ | refine st_nei hk ?_ ?_ | refine st_eqS hk ?_ ?_ | refine st_neS hk ?_ ?_ | refine st_cmpS hk ?_ ?_ | refine st_eqs hk ?_ ?_ | refine st_nes hk ?_ ?_) <;> (intro hp; clear hk a; intro a hk) | (first | refine st_box hk hS ?_ | refine st_alloc hk hS ?_); clear hk hS a; intro w b hS a hk | (first | refine st_store hk hS ?_ | refine st_stI hk hS ?_ | refine st_stB hk hS ?_ | refine st_stS hk hS ?_); clear hk hS a; intro w hS a hk | (first | refine st_bs1I hk hS ?_ | refine st_bs1S hk hS ?_ | refine st_app1 hk hS ?_ | refine st_appE hk hS ?_); clear hk hS a; intro w v hS a hk | fail) | refine wpIn_seq ?_ | refine wpIn_block ?_ | refine wpIn_region_lit ?_ | refine q_then ?_ | refine q_thenE ?_ | refine q_thenR ?_ | refine q_inN ?_ | refine q_inR ?_ | refine q_inE ?_ | refine q_inO ?_ | refine wpIn_skip ?_ | refine wpIn_ret ?_ | refine wpIn_exit ?_ | (refine s_end hk ?_; clear hk a; intro a hk) | refine c_true hk ?_ | refine c_false hk ?_ | fail))
    refine sg hk (g_callO hk (hf := by kernel_rfl) (hc := applyS_any (txtF a0) (T.map stT) vt3 vs _ (by first | exact St.rdT hS (by assumption) | exact OwT.rd (hS.rd (A := OwT _ _ _) (by (repeat (first | exact At.here | apply At.there)))) | assumption) (by first | exact St.rdT hS (by assumption) | exact OwT.rd (hS.rd (A := OwT _ _ _) (by (repeat (first | exact At.here | apply At.there)))) | assumption) (by omega) (by omega)) (h := ?_)); clear hk a; rintro vp3 w hS1 a hk; replace hS := hS.call hS1; clear hS1
    rw [List.cons_append, List.nil_append, hapS] at hS
    (repeat' (first | (show wpListIn _ _ _ _ _ (_ :: _) _ _; first | (refine st hk ?_; clear hk a; intro a hk) | (refine st_skip hk ?_; clear hk a; intro a hk) | (refine s_skip0 hk ?_; clear hk a; intro a hk) | (first | refine st_lss hk ?_ ?_ | refine st_leq hk ?_ ?_ | refine st_gtr hk ?_ ?_ | refine st_geq hk ?_ ?_ | refine st_eqi hk ?_ ?_ | refine st_nei hk ?_ ?_ | refine st_eqS hk ?_ ?_ | refine st_neS hk ?_ ?_ | refine st_cmpS hk ?_ ?_ | refine st_eqs hk ?_ ?_ | refine st_nes hk ?_ ?_) <;> (intro hp; clear hk a; intro a hk) | (first | refine st_box hk hS ?_ | refine st_alloc hk hS ?_); clear hk hS a; intro w b hS a hk | (first | refine st_store hk hS ?_ | refine st_stI hk hS ?_ | refine st_stB hk hS ?_ | refine st_stS hk hS ?_); clear hk hS a; intro w hS a hk | (first | refine st_bs1I hk hS ?_ | refine st_bs1S hk hS ?_ | refine st_app1 hk hS ?_ | refine st_appE hk hS ?_); clear hk hS a; intro w v hS a hk | fail) | refine wpIn_seq ?_ | refine wpIn_block ?_ | refine wpIn_region_lit ?_ | refine q_then ?_ | refine q_thenE ?_ | refine q_thenR ?_ | refine q_inN ?_ | refine q_inR ?_ | refine q_inE ?_ | refine q_inO ?_ | refine wpIn_skip ?_ | refine wpIn_ret ?_ | refine wpIn_exit ?_ | (refine s_end hk ?_; clear hk a; intro a hk) | refine c_true hk ?_ | refine c_false hk ?_ | fail))
    refine sg hk (g_callO hk (hf := by kernel_rfl) (hc := refOf_any b0 v1 _ (by first | exact St.rdT hS (by assumption) | exact OwT.rd (hS.rd (A := OwT _ _ _) (by (repeat (first | exact At.here | apply At.there)))) | assumption) (by omega)) (h := ?_)); clear hk a; rintro vp4 w hS1 a hk; replace hS := hS.call hS1; clear hS1
    rw [List.cons_append, List.nil_append] at hS
    refine sg hk (g_callO hk (hf := by kernel_rfl) (hc := isT_any (snapF nmI b0) hrs vp3 vp4 _ (ht.mono hS.below) (by first | exact St.rdT hS (by assumption) | exact OwT.rd (hS.rd (A := OwT _ _ _) (by (repeat (first | exact At.here | apply At.there)))) | assumption) (by first | exact St.rdT hS (by assumption) | exact OwT.rd (hS.rd (A := OwT _ _ _) (by (repeat (first | exact At.here | apply At.there)))) | assumption) (by omega)) (h := ?_)); clear hk a; rintro _ w ⟨rfl, hS1⟩ a hk; replace hS := hS.call0 hS1; clear hS1
    (repeat' (first | (show wpListIn _ _ _ _ _ (_ :: _) _ _; first | (refine st hk ?_; clear hk a; intro a hk) | (refine st_skip hk ?_; clear hk a; intro a hk) | (refine s_skip0 hk ?_; clear hk a; intro a hk) | (first | refine st_lss hk ?_ ?_ | refine st_leq hk ?_ ?_ | refine st_gtr hk ?_ ?_ | refine st_geq hk ?_ ?_ | refine st_eqi hk ?_ ?_ | refine st_nei hk ?_ ?_ | refine st_eqS hk ?_ ?_ | refine st_neS hk ?_ ?_ | refine st_cmpS hk ?_ ?_ | refine st_eqs hk ?_ ?_ | refine st_nes hk ?_ ?_) <;> (intro hp; clear hk a; intro a hk) | (first | refine st_box hk hS ?_ | refine st_alloc hk hS ?_); clear hk hS a; intro w b hS a hk | (first | refine st_store hk hS ?_ | refine st_stI hk hS ?_ | refine st_stB hk hS ?_ | refine st_stS hk hS ?_); clear hk hS a; intro w hS a hk | (first | refine st_bs1I hk hS ?_ | refine st_bs1S hk hS ?_ | refine st_app1 hk hS ?_ | refine st_appE hk hS ?_); clear hk hS a; intro w v hS a hk | fail) | refine wpIn_seq ?_ | refine wpIn_block ?_ | refine wpIn_region_lit ?_ | refine q_then ?_ | refine q_thenE ?_ | refine q_thenR ?_ | refine q_inN ?_ | refine q_inR ?_ | refine q_inE ?_ | refine q_inO ?_ | refine wpIn_skip ?_ | refine wpIn_ret ?_ | refine wpIn_exit ?_ | (refine s_end hk ?_; clear hk a; intro a hk) | refine c_true hk ?_ | refine c_false hk ?_ | fail))
    exact done1 hk (h := ⟨rfl, hS.nil⟩)

theorem tab_PropsTurns {W : World} (hL : laidMetH Tryd.prog Rows.propsTurnsRow.laid W) : TabW W := by
  rw [MakeChecks.laidMetH_plain _ _ _ (by kernel_rfl)] at hL
  exact Lib.tabIs_of_head (g := 1) (t := 150) (by kernel_rfl) (by kernel_rfl) Tryd.underlying150 Tryd.underlying141 (by kernel_rfl) (by kernel_rfl) (laid_tail (laid_tail hL))
theorem walk_PropsTurns (W : World) (vs : List Value) (hL : laidMetH Tryd.prog Rows.propsTurnsRow.laid W) (h : Args Tryd.prog W [47, 47] vs) : Calls Tryd.prog 10 vs.toArray W (Ret fun v w => v = .bool true ∧ St W [] w) := by
  obtain ⟨v1, v2, rfl, ha, hb⟩ := args2 h
  obtain ⟨xs, hx, hrx⟩ := arg_prs ha
  obtain ⟨ys, hy, hry⟩ := arg_prs hb
  exact propsTurns_any xs ys hrx hry _ _ W (tab_PropsTurns hL) hx hy
end Go.Proofs.YteoedhkppmbkoaaDoor
