/- Layer 8: the fixed texts: the law's head. Layer 7: views as the document has them. Layer 7: views that are the same, in plain words. Layer 7: views that are the same, by the reference. Layer 7: views that are the same, by the reference. Layer 7: views that are just alike. -/
import Derived.Test.YtipdgobplfkipaaGreatDoorR20
import Derived.Test.YtipdgobplfkipaaGreatDoorR18
set_option linter.all false
namespace Go.Proofs.YtipdgobplfkipaaGreatDoor
open Go.RowKit
set_option maxRecDepth 100000
attribute [local irreducible] Go.Code.wpIn Go.wpListIn Go.Calls Gives Go.Exit.then Go.Exit.inBlock Done ObxE

abbrev awkK : Tree := .mk 1 ⟨#[]⟩ ⟨#[]⟩ ⟨#[104, 105]⟩ [] [] [] o0 []
abbrev awkT : Tree := .mk 2 ⟨#[112]⟩ ⟨#[97]⟩ ⟨#[]⟩ [⟨#[111, 110]⟩] [] [(⟨#[119]⟩, 3)] o0 [awkK]
theorem awkT_snap : snapT awkT = awkT := by kernel_rfl
theorem awkT_prn : prnT (snapT awkT) = awk1 := by kernel_rfl
theorem awkT_po : PO awkT := by
  have z : i64R 0 := by unfold i64R; omega
  refine .mk (by decide) (by decide) (by decide) (by decide) ?_ ⟨z, z, z⟩ ?_
  · intro x hx; rw [List.mem_singleton] at hx; subst hx; unfold i64R; exact ⟨by decide, by decide⟩
  · intro t ht
    rw [List.mem_singleton] at ht
    subst ht
    exact .mk (by decide) (by decide) (by decide) (by decide) (by simp) ⟨z, z, z⟩ (by simp)

set_option maxHeartbeats 4000000 in
theorem awake_any (w0 : World) (ht : TabW w0) : Calls Tryz.prog 7 #[] w0 (Ret fun v w => v = .bool true ∧ St w0 [] w) := by
  refine enter (args := []) Tryz.func7 rfl Tryz.ntmps7 rfl (fun a hk => ?_); have hS := St.refl w0
  (repeat' (first | (show wpListIn _ _ _ _ _ (_ :: _) _ _; first | (refine wx1 ?_; clear hk a; intro a hk) | (refine wx2 ?_ ?_ <;> (intro hp; clear hk a; intro a hk)) | (refine wx3 ?_; clear hk hS a; intro w b hS a hk) | (refine wx4 ?_; clear hk hS a; intro w hS a hk) | (refine wx5 ?_; clear hk hS a; intro w v hS a hk) | fail) | refine wx0 ?_ | (refine s_end hk ?_; clear hk a; intro a hk) | fail))
  refine sg hk (g_callO hk (hf := by kernel_rfl) (hc := parseL_any awk1 (by show (19 : Nat) ≤ _; omega) hS) (h := ?_)); clear hk hS a; intro vr w hS a hk
  rw [awk1_is] at hS
  obtain ⟨u, rfl, hS⟩ := hS
  rw [awkT_snap] at hS
  obtain ⟨hd1, rfl, hS1⟩ := St.tree hS .here
  clear hS
  have hS := hS1
  clear hS1
  obtain ⟨k, tag, key, text, cl, al, sl, e, lv, m, d, p, q, kids, A1, M1, A2, M2, A3, M3, A4, M4, H, he, rfl, -, -, -, -, hF⟩ := (hS.trR .here).split
  injection he with q1 q2 q3 q4 q5 q6 q7 q8 q9
  injection q8 with q10 q11
  injection q11 with q11 q12
  injection q12 with q12 q13
  injection q13 with q13 q14
  injection q14 with q14 q15
  subst q1 q2 q3 q4 q5 q6 q7 q9 q10 q11 q12 q13 q14 q15
  have hHl : H.length = 1 := hF.1
  rw [hHl] at hS hk
  (repeat' (first | (show wpListIn _ _ _ _ _ (_ :: _) _ _; first | (refine wx1 ?_; clear hk a; intro a hk) | (refine wx2 ?_ ?_ <;> (intro hp; clear hk a; intro a hk)) | (refine wx3 ?_; clear hk hS a; intro w b hS a hk) | (refine wx4 ?_; clear hk hS a; intro w hS a hk) | (refine wx5 ?_; clear hk hS a; intro w v hS a hk) | fail) | refine wx0 ?_ | (refine s_end hk ?_; clear hk a; intro a hk) | fail))
  refine sg hk (g_callO hk (hf := by kernel_rfl) (hc := parseL_any awk2 (by show (9 : Nat) ≤ _; omega) hS) (h := ?_)); clear hk hS a; intro vr w hS a hk
  rw [awk2_is] at hS
  obtain ⟨rfl, hS⟩ := hS
  (repeat' (first | (show wpListIn _ _ _ _ _ (_ :: _) _ _; first | (refine wx1 ?_; clear hk a; intro a hk) | (refine wx2 ?_ ?_ <;> (intro hp; clear hk a; intro a hk)) | (refine wx3 ?_; clear hk hS a; intro w b hS a hk) | (refine wx4 ?_; clear hk hS a; intro w hS a hk) | (refine wx5 ?_; clear hk hS a; intro w v hS a hk) | fail) | refine wx0 ?_ | (refine s_end hk ?_; clear hk a; intro a hk) | fail))
  have hr := hS.trR (t := awkT) (by (repeat (first | exact At.here | apply At.there)))
  have hr2 := hr
  cases hr with
  | mk c1 c2 c3 c4 hl2 hkr =>
  rename_i H2
  have hl3 : H2.length = 1 := hl2
  have c4' : SlT H2 (.slice A4 1 M4) w := c4
  clear c1 c2 c3 c4 hl2
  obtain ⟨hd0, hx⟩ : ∃ x, H2[0]? = some x := ⟨_, List.getElem?_eq_getElem (by omega)⟩
  have hT0 := hkr 0 awkK hd0 rfl hx
  clear hkr
  cases hT0 with
  | mk d1 d2 d3 d4 dl dr =>
  clear d1 d2 d3 d4 dl dr
  (repeat' (first | (show wpListIn _ _ _ _ _ (_ :: _) _ _; first | (refine wx1 ?_; clear hk a; intro a hk) | (refine wx2 ?_ ?_ <;> (intro hp; clear hk a; intro a hk)) | (refine wx3 ?_; clear hk hS a; intro w b hS a hk) | (refine wx4 ?_; clear hk hS a; intro w hS a hk) | (refine wx5 ?_; clear hk hS a; intro w v hS a hk) | fail) | refine wx0 ?_ | (refine s_end hk ?_; clear hk a; intro a hk) | fail))
  refine sg hk (g_callO hk (hf := by kernel_rfl) (hc := print_any _ awkT _ _ (Nat.lt_succ_self _) awkT_po (by rw [awkT_prn]; show (19 : Nat) ≤ _; omega) hr2 (ht.mono hS.below)) (h := ?_)); clear hk a; rintro _ w ⟨rfl, hS1⟩ a hk; replace hS := hS.call0 hS1; clear hS1
  rw [awkT_prn] at hk
  (repeat' (first | (show wpListIn _ _ _ _ _ (_ :: _) _ _; first | (refine wx1 ?_; clear hk a; intro a hk) | (refine wx2 ?_ ?_ <;> (intro hp; clear hk a; intro a hk)) | (refine wx3 ?_; clear hk hS a; intro w b hS a hk) | (refine wx4 ?_; clear hk hS a; intro w hS a hk) | (refine wx5 ?_; clear hk hS a; intro w v hS a hk) | fail) | refine wx0 ?_ | (refine s_end hk ?_; clear hk a; intro a hk) | fail))
  exact done1 hk (h := ⟨rfl, hS.nil⟩)
end Go.Proofs.YtipdgobplfkipaaGreatDoor
namespace Go.Proofs.YtipdgobplfkipaaGreatDoor
open Go.RowKit
set_option maxRecDepth 100000
attribute [local irreducible] Go.Code.wpIn Go.wpListIn Go.Calls Gives Go.Exit.then Go.Exit.inBlock Done ObxE

set_option maxHeartbeats 4000000 in
theorem toldW_any : ∀ (n : Nat) (t : Tree) (h : NdH) (w0 : World), SizeOf.sizeOf t < n → FitsW t → TrR w0 t h → Calls Tryz.prog 12 #[ndV h] w0 (Ret fun v w => St w0 [treeH t v] w)
  | 0, _, _, _, hn, _, _ => by omega
  | n + 1, t, h, w0, hn, hf, hr => by
    have ih := toldW_any n
    obtain ⟨k, tag, key, text, cl, al, sl, e, lv, m, d, p, q, kids, a1, m1, a2, m2, a3, m3, a4, m4, H, rfl, rfl, c1, c2, c3, c4, hF⟩ := hr.split
    obtain ⟨l1, l2, l3, l4, l5⟩ := hf
    have hHk : H.length = kids.length := hF.1
    show Calls Tryz.prog 12 #[.agg #[.int .i64 k, .string tag, .string key, .string text, .slice a1 cl.length m1, .slice a2 al.length m2, .slice a3 sl.length m3, .int .i64 e, .int .i64 lv, .int .i64 m, .int .i64 d, .bool p, .bool q, .slice a4 H.length m4]] w0 _
    refine enter Tryz.func12 rfl Tryz.ntmps12 rfl (fun a hk => ?_); have hS := St.refl w0
    (repeat' (first | (show wpListIn _ _ _ _ _ (_ :: _) _ _; first | (refine wx1 ?_; clear hk a; intro a hk) | (refine wx2 ?_ ?_ <;> (intro hp; clear hk a; intro a hk)) | (refine wx3 ?_; clear hk hS a; intro w b hS a hk) | (refine wx4 ?_; clear hk hS a; intro w hS a hk) | (refine wx5 ?_; clear hk hS a; intro w v hS a hk) | fail) | refine wx0 ?_ | (refine s_end hk ?_; clear hk a; intro a hk) | fail))
    rename_i b1
    rename Nat => b2
    refine wp_drawn 16 mixed (by kernel_rfl) hk hS ?_; clear hk hS a
    (repeat' (first | (show ObxE _ _ _ _ _ _ _ _ _ (_ :: _) _ _ _; first | refine ox1 ?_ | (refine ox2 ?_ ?_ <;> intro hp) | fail) | fail))
    refine' obe_res (fun us a w hk hd hS => ?_) ?_; rotate_left; focus (have hk := Kn.vw hk (by repeat (first | exact VW.nil | apply VW.val rfl | apply VW.base rfl rfl | apply VW.res rfl | apply VW.upd rfl | apply VW.cpy rfl | apply VW.dep rfl | apply VW.fn rfl | apply VW.lnd rfl | apply VW.tak rfl)); exact v_bs0 (hT := eT rfl) (hE := zT rfl))
    (repeat' (first | (show ObxE _ _ _ _ _ _ _ _ _ (_ :: _) _ _ _; first | refine ox1 ?_ | (refine ox2 ?_ ?_ <;> intro hp) | fail) | fail))
    refine' obe_res (fun us a w hk hd hS => ?_) ?_; rotate_left; focus (have hk := Kn.vw hk (by repeat (first | exact VW.nil | apply VW.val rfl | apply VW.base rfl rfl | apply VW.res rfl | apply VW.upd rfl | apply VW.cpy rfl | apply VW.dep rfl | apply VW.fn rfl | apply VW.lnd rfl | apply VW.tak rfl)); exact v_appR (ys := cl) hk hd.1 (hT := eT rfl) (hTx := eT rfl) (hE := zT rfl) (hz := oT rfl) (hzs := rfl) (hs := hS.rdT c1) (hby := bT rfl) (hbytes := by omega) (h63 := by simp only [maxLen]; omega))
    (repeat' (first | (show ObxE _ _ _ _ _ _ _ _ _ (_ :: _) _ _ _; first | refine ox1 ?_ | (refine ox2 ?_ ?_ <;> intro hp) | fail) | fail))
    refine' obe_fn [11] (fun l => .agg #[.int .i64 k, .string tag, .string key, .string text, l.getD 0 undef, .slice none 0 0, .slice none 0 0, .int .i64 e, .int .i64 lv, .int .i64 m, .int .i64 d, .bool p, .bool q, .slice none 0 0]) (fun us a w hk hd hS => ?_) ?_ (by intro k e; simp only [List.mem_cons, List.not_mem_nil, or_false] at e; rcases e with rfl; exact ⟨21, _, rfl, rfl⟩)
    · have hk := Kn.vw hk (by repeat (first | exact VW.nil | apply VW.val rfl | apply VW.base rfl rfl | apply VW.res rfl | apply VW.upd rfl | apply VW.cpy rfl | apply VW.dep rfl | apply VW.fn rfl | apply VW.lnd rfl | apply VW.tak rfl))
      have h1 : (appH 9 cl (us 11)).rd w := hd.2.2.2.2.1
      obtain ⟨_, _, e1, _⟩ := (appH.rd h1).shape
      simp only [Nat.zero_add, Nat.reduceAdd] at hk
      simp only [List.map, List.getD_cons_zero]
      rw [e1] at hk ⊢
      exact g_build hk ⟨rfl, St.refl w⟩ (fsT rfl) (oT rfl)
    refine' obe_res (fun us a w hk hd hS => ?_) ?_; rotate_left; focus (have hk := Kn.vw hk (by repeat (first | exact VW.nil | apply VW.val rfl | apply VW.base rfl rfl | apply VW.res rfl | apply VW.upd rfl | apply VW.cpy rfl | apply VW.dep rfl | apply VW.fn rfl | apply VW.lnd rfl | apply VW.tak rfl)); exact v_alloc hk (oT rfl))
    refine obe_nil ⟨rfl, ?_⟩; intro us a w hk hS
    simp only [resE, List.cons_append, List.nil_append, Nat.zero_add, Nat.reduceAdd] at hS
    obtain ⟨b3, hb3, hS1⟩ := hS.ptv (by (repeat (first | exact At.here | apply At.there))); replace hS := hS1; clear hS1
    replace hk := Kn.kp [1, 2, 3, 24] hk
    simp only [HV.of, List.map, List.getD_cons_zero, Nat.zero_add, Nat.reduceAdd] at hk
    generalize us 11 = v21 at hS hk
    rw [hb3] at hk
    obtain ⟨a21, m21, rfl, _⟩ := (appH.rd (hS.rd (A := appH 9 cl v21) (by (repeat (first | exact At.here | apply At.there))))).shape
    (repeat' (first | (show wpListIn _ _ _ _ _ (_ :: _) _ _; first | (refine wx1 ?_; clear hk a; intro a hk) | (refine wx2 ?_ ?_ <;> (intro hp; clear hk a; intro a hk)) | (refine wx3 ?_; clear hk hS a; intro w b hS a hk) | (refine wx4 ?_; clear hk hS a; intro w hS a hk) | (refine wx5 ?_; clear hk hS a; intro w v hS a hk) | fail) | refine wx0 ?_ | (refine s_end hk ?_; clear hk a; intro a hk) | fail))
    replace hS := hS.nilT 73 PrS
    replace hk := Kn.kp [1, 2, 3, 26, 27, 28] hk
    refine wp_for al.length (fun i _ => [(28, .int .i64 (i : Int))]) (fun i v => [OwT 73 (al.take i) (.slice v.1 i v.2), pts b3 [.int .i64 k, .string tag, .string key, .string text, .slice a21 cl.length m21, .slice v.1 i v.2, .slice none 0 0, .int .i64 e, .int .i64 lv, .int .i64 m, .int .i64 d, .bool p, .bool q, .slice none 0 0] 42, appH 9 cl (.slice a21 cl.length m21), pts b2 [.int .i64 0, .string ⟨#[]⟩, .string ⟨#[]⟩, .string ⟨#[]⟩, .slice none 0 0, .slice none 0 0, .slice none 0 0, .int .i64 0, .int .i64 0, .int .i64 0, .int .i64 0, .bool false, .bool false, .slice none 0 0] 42, pts b1 [.int .i64 k, .string tag, .string key, .string text, .slice a1 cl.length m1, .slice a2 al.length m2, .slice a3 sl.length m3, .int .i64 e, .int .i64 lv, .int .i64 m, .int .i64 d, .bool p, .bool q, .slice a4 H.length m4] 33]) (fun _ _ => True) ((none, 0) : Option Addr × Nat) hk (by repeat (first | exact trivial | refine ⟨rfl, ?_⟩)) hS.sb trivial ?_
    clear hk hS a
    rintro i ⟨ao, c⟩ a w hi hk hS -
    by_cases hil : i < al.length
    · obtain ⟨⟨nm, val⟩, hx⟩ : ∃ x, al[i]? = some x := ⟨_, List.getElem?_eq_getElem hil⟩
      have hst : al.take (i + 1) = al.take i ++ [(nm, val)] := take_snoc hx
      have htl : (al.take i).length = i := by rw [List.length_take]; omega
      have hv1 := hS.rdT c2
      simp only at hS hk
      (repeat' (first | (show wpListIn _ _ _ _ _ (_ :: _) _ _; first | (refine wx1 ?_; clear hk a; intro a hk) | (refine wx2 ?_ ?_ <;> (intro hp; clear hk a; intro a hk)) | (refine wx3 ?_; clear hk hS a; intro w b hS a hk) | (refine wx4 ?_; clear hk hS a; intro w hS a hk) | (refine wx5 ?_; clear hk hS a; intro w v hS a hk) | fail) | refine wx0 ?_ | (refine s_end hk ?_; clear hk a; intro a hk) | fail))
      have htl1 : (al.take (i + 1)).length = i + 1 := by rw [List.length_take]; omega
      refine sg hk (g_bsT (xs := [((nm, val) : ByteArray × ByteArray)]) (m := 0) hk hS ?_ (hT := eT rfl) (hE := zT rfl) (hz := oT rfl)); clear hk hS a; intro w ve hS a hk
      (repeat' (first | (show wpListIn _ _ _ _ _ (_ :: _) _ _; first | (refine wx1 ?_; clear hk a; intro a hk) | (refine wx2 ?_ ?_ <;> (intro hp; clear hk a; intro a hk)) | (refine wx3 ?_; clear hk hS a; intro w b hS a hk) | (refine wx4 ?_; clear hk hS a; intro w hS a hk) | (refine wx5 ?_; clear hk hS a; intro w v hS a hk) | fail) | refine wx0 ?_ | (refine s_end hk ?_; clear hk a; intro a hk) | fail))
      rw [← hst] at hS
      rename Value => vn
      obtain ⟨aovn, cvn, hshp, _⟩ := (OwT.rd (hS.rd (A := OwT 73 _ vn) (by (repeat (first | exact At.here | apply At.there))))).shape; subst hshp
      rw [htl1] at hS hk
      (repeat' (first | (show wpListIn _ _ _ _ _ (_ :: _) _ _; first | (refine wx1 ?_; clear hk a; intro a hk) | (refine wx2 ?_ ?_ <;> (intro hp; clear hk a; intro a hk)) | (refine wx3 ?_; clear hk hS a; intro w b hS a hk) | (refine wx4 ?_; clear hk hS a; intro w hS a hk) | (refine wx5 ?_; clear hk hS a; intro w v hS a hk) | fail) | refine wx0 ?_ | (refine s_end hk ?_; clear hk a; intro a hk) | fail))
      exact ⟨hil, (aovn, cvn), hk.sd, hS.sb, trivial⟩
    · have : i = al.length := by omega
      subst this
      rw [List.take_length] at hS
      simp only at hS hk
      have c3' := hS.rdT c3
      (repeat' (first | (show wpListIn _ _ _ _ _ (_ :: _) _ _; first | (refine wx1 ?_; clear hk a; intro a hk) | (refine wx2 ?_ ?_ <;> (intro hp; clear hk a; intro a hk)) | (refine wx3 ?_; clear hk hS a; intro w b hS a hk) | (refine wx4 ?_; clear hk hS a; intro w hS a hk) | (refine wx5 ?_; clear hk hS a; intro w v hS a hk) | fail) | refine wx0 ?_ | (refine s_end hk ?_; clear hk a; intro a hk) | fail))
      replace hS := hS.nilT 75 PrI
      replace hk := Kn.kp [1, 2, 3, 40, 41, 42] hk
      refine wp_for sl.length (fun i _ => [(42, .int .i64 (i : Int))]) (fun i v => [OwT 75 (sl.take i) (.slice v.1 i v.2), pts b3 [.int .i64 k, .string tag, .string key, .string text, .slice a21 cl.length m21, .slice ao al.length c, .slice v.1 i v.2, .int .i64 e, .int .i64 lv, .int .i64 m, .int .i64 d, .bool p, .bool q, .slice none 0 0] 42, OwT 73 al (.slice ao al.length c), appH 9 cl (.slice a21 cl.length m21), pts b2 [.int .i64 0, .string ⟨#[]⟩, .string ⟨#[]⟩, .string ⟨#[]⟩, .slice none 0 0, .slice none 0 0, .slice none 0 0, .int .i64 0, .int .i64 0, .int .i64 0, .int .i64 0, .bool false, .bool false, .slice none 0 0] 42, pts b1 [.int .i64 k, .string tag, .string key, .string text, .slice a1 cl.length m1, .slice a2 al.length m2, .slice a3 sl.length m3, .int .i64 e, .int .i64 lv, .int .i64 m, .int .i64 d, .bool p, .bool q, .slice a4 H.length m4] 33]) (fun _ _ => True) ((none, 0) : Option Addr × Nat) hk (by repeat (first | exact trivial | refine ⟨rfl, ?_⟩)) hS.sb trivial ?_
      clear hk hS a c3'
      rintro i ⟨bo, f⟩ a w hi hk hS -
      by_cases hil : i < sl.length
      · obtain ⟨⟨nm, val⟩, hx⟩ : ∃ x, sl[i]? = some x := ⟨_, List.getElem?_eq_getElem hil⟩
        have hst : sl.take (i + 1) = sl.take i ++ [(nm, val)] := take_snoc hx
        have htl : (sl.take i).length = i := by rw [List.length_take]; omega
        have hv1 := hS.rdT c3
        simp only at hS hk
        (repeat' (first | (show wpListIn _ _ _ _ _ (_ :: _) _ _; first | (refine wx1 ?_; clear hk a; intro a hk) | (refine wx2 ?_ ?_ <;> (intro hp; clear hk a; intro a hk)) | (refine wx3 ?_; clear hk hS a; intro w b hS a hk) | (refine wx4 ?_; clear hk hS a; intro w hS a hk) | (refine wx5 ?_; clear hk hS a; intro w v hS a hk) | fail) | refine wx0 ?_ | (refine s_end hk ?_; clear hk a; intro a hk) | fail))
        have htl1 : (sl.take (i + 1)).length = i + 1 := by rw [List.length_take]; omega
        refine sg hk (g_bsT (xs := [((nm, val) : ByteArray × Int)]) (m := 0) hk hS ?_ (hT := eT rfl) (hE := zT rfl) (hz := oT rfl)); clear hk hS a; intro w ve hS a hk
        (repeat' (first | (show wpListIn _ _ _ _ _ (_ :: _) _ _; first | (refine wx1 ?_; clear hk a; intro a hk) | (refine wx2 ?_ ?_ <;> (intro hp; clear hk a; intro a hk)) | (refine wx3 ?_; clear hk hS a; intro w b hS a hk) | (refine wx4 ?_; clear hk hS a; intro w hS a hk) | (refine wx5 ?_; clear hk hS a; intro w v hS a hk) | fail) | refine wx0 ?_ | (refine s_end hk ?_; clear hk a; intro a hk) | fail))
        rw [← hst] at hS
        rename Value => vn
        obtain ⟨aovn, cvn, hshp, _⟩ := (OwT.rd (hS.rd (A := OwT 75 _ vn) (by (repeat (first | exact At.here | apply At.there))))).shape; subst hshp
        rw [htl1] at hS hk
        (repeat' (first | (show wpListIn _ _ _ _ _ (_ :: _) _ _; first | (refine wx1 ?_; clear hk a; intro a hk) | (refine wx2 ?_ ?_ <;> (intro hp; clear hk a; intro a hk)) | (refine wx3 ?_; clear hk hS a; intro w b hS a hk) | (refine wx4 ?_; clear hk hS a; intro w hS a hk) | (refine wx5 ?_; clear hk hS a; intro w v hS a hk) | fail) | refine wx0 ?_ | (refine s_end hk ?_; clear hk a; intro a hk) | fail))
        exact ⟨hil, (aovn, cvn), hk.sd, hS.sb, trivial⟩
      · have : i = sl.length := by omega
        subst this
        rw [List.take_length] at hS
        simp only at hS hk
        have c4' := hS.rdT c4
        have hF' := hS.rdFo hF
        (repeat' (first | (show wpListIn _ _ _ _ _ (_ :: _) _ _; first | (refine wx1 ?_; clear hk a; intro a hk) | (refine wx2 ?_ ?_ <;> (intro hp; clear hk a; intro a hk)) | (refine wx3 ?_; clear hk hS a; intro w b hS a hk) | (refine wx4 ?_; clear hk hS a; intro w hS a hk) | (refine wx5 ?_; clear hk hS a; intro w v hS a hk) | fail) | refine wx0 ?_ | (refine s_end hk ?_; clear hk a; intro a hk) | fail))
        replace hS := forR.nil (hS.nilT 42 NdH)
        replace hk := Kn.kp [2, 3, 54, 55, 56] hk
        refine wp_for H.length (fun i _ => [(56, .int .i64 (i : Int))]) (fun i v => [forR (kids.take i) (v.2 : List NdH), OwT 42 v.2 (.slice v.1.1 i v.1.2), pts b3 [.int .i64 k, .string tag, .string key, .string text, .slice a21 cl.length m21, .slice ao al.length c, .slice bo sl.length f, .int .i64 e, .int .i64 lv, .int .i64 m, .int .i64 d, .bool p, .bool q, .slice v.1.1 i v.1.2] 42, OwT 75 sl (.slice bo sl.length f), OwT 73 al (.slice ao al.length c), appH 9 cl (.slice a21 cl.length m21), pts b2 [.int .i64 0, .string ⟨#[]⟩, .string ⟨#[]⟩, .string ⟨#[]⟩, .slice none 0 0, .slice none 0 0, .slice none 0 0, .int .i64 0, .int .i64 0, .int .i64 0, .int .i64 0, .bool false, .bool false, .slice none 0 0] 42, pts b1 [.int .i64 k, .string tag, .string key, .string text, .slice a1 cl.length m1, .slice a2 al.length m2, .slice a3 sl.length m3, .int .i64 e, .int .i64 lv, .int .i64 m, .int .i64 d, .bool p, .bool q, .slice a4 H.length m4] 33]) (fun _ _ => True) (((none, 0), []) : (Option Addr × Nat) × List NdH) hk (by repeat (first | exact trivial | refine ⟨rfl, ?_⟩)) hS.sb trivial ?_
        clear hk hS a
        rintro j ⟨⟨ak, ck⟩, H'⟩ a w hj hk hS -
        have hFH := hS.foR .here
        have hkl : (kids.take j).length = j := by rw [List.length_take, ← hF.1]; omega
        have hHl : H'.length = j := by rw [hFH.1, hkl]
        by_cases hjl : j < H.length
        · obtain ⟨tk, htk⟩ : ∃ t, kids[j]? = some t := ⟨_, List.getElem?_eq_getElem (by rw [← hF.1]; exact hjl)⟩
          obtain ⟨hd0, hx⟩ : ∃ x, H[j]? = some x := ⟨_, List.getElem?_eq_getElem hjl⟩
          have hTr := hF.2 j tk hd0 htk hx
          have hfk := l5 tk (List.mem_of_getElem? htk)
          have hlt : SizeOf.sizeOf tk < n := by have := kid_lt (k := k) (tag := tag) (key := key) (text := text) (cl := cl) (at_ := al) (st := sl) (o := (e, lv, m, d, p, q)) (List.mem_of_getElem? htk); omega
          have hst : kids.take (j + 1) = kids.take j ++ [tk] := take_snoc htk
          have c4'' := hS.rdT c4
          simp only at hS hk
          obtain ⟨k', tag', key', text', ⟨x1, x2, x3⟩, ⟨y1, y2, y3⟩, ⟨z1, z2, z3⟩, ⟨e', lv', m', d', p', q'⟩, ⟨u1, u2, u3⟩⟩ := hd0
          (repeat' (first | (show wpListIn _ _ _ _ _ (_ :: _) _ _; first | (refine wx1 ?_; clear hk a; intro a hk) | (refine wx2 ?_ ?_ <;> (intro hp; clear hk a; intro a hk)) | (refine wx3 ?_; clear hk hS a; intro w b hS a hk) | (refine wx4 ?_; clear hk hS a; intro w hS a hk) | (refine wx5 ?_; clear hk hS a; intro w v hS a hk) | fail) | refine wx0 ?_ | (refine s_end hk ?_; clear hk a; intro a hk) | fail))
          refine wp_drawn 5 mixed (by kernel_rfl) hk hS ?_; clear hk hS a
          (repeat' (first | (show ObxE _ _ _ _ _ _ _ _ _ (_ :: _) _ _ _; first | refine ox1 ?_ | (refine ox2 ?_ ?_ <;> intro hp) | fail) | fail))
          refine' obe_res (fun us a w hk hd hS => ?_) ?_; rotate_left; focus (have hk := Kn.vw hk (by repeat (first | exact VW.nil | apply VW.val rfl | apply VW.base rfl rfl | apply VW.res rfl | apply VW.upd rfl | apply VW.cpy rfl | apply VW.dep rfl | apply VW.fn rfl | apply VW.lnd rfl | apply VW.tak rfl)); exact g_callO hk (hf := by kernel_rfl) (hc := ih tk (k', tag', key', text', ⟨x1, x2, x3⟩, ⟨y1, y2, y3⟩, ⟨z1, z2, z3⟩, (e', lv', m', d', p', q'), ⟨u1, u2, u3⟩) _ hlt hfk (hS.rdTr hTr)) (h := fun _ _ h => h))
          refine' obe_dep 63 3 (V := fun u v => OwT 42 [ndOf u] v) (fun us a w hk hd hS => ?_) ?_
          · have hk := Kn.vw hk (by repeat (first | exact VW.nil | apply VW.val rfl | apply VW.base rfl rfl | apply VW.res rfl | apply VW.upd rfl | apply VW.cpy rfl | apply VW.dep rfl | apply VW.fn rfl | apply VW.lnd rfl | apply VW.tak rfl))
            have hG : (treeH tk (us 3)).rd w := hd.1
            obtain ⟨⟨k2, tag2, key2, text2, ⟨x12, x22, x32⟩, ⟨y12, y22, y32⟩, ⟨z12, z22, z32⟩, ⟨e2, lv2, m2, d2, p2, q2⟩, ⟨u12, u22, u32⟩⟩, he, _⟩ := treeH.rd hG
            show Gives _ _ _ _ (fun v w' => St w [OwT 42 [ndOf (us 3)] v] w')
            simp only [Nat.zero_add, Nat.reduceAdd] at hk
            rw [he] at hk ⊢
            rw [ndOf_ndV]
            exact v_bsT (xs := [((k2, tag2, key2, text2, ⟨x12, x22, x32⟩, ⟨y12, y22, y32⟩, ⟨z12, z22, z32⟩, (e2, lv2, m2, d2, p2, q2), ⟨u12, u22, u32⟩) : NdH)]) (m := 0) hk (hT := eT rfl) (hE := zT rfl) (hz := oT rfl)
          refine obe_nil ⟨rfl, ?_⟩; intro us a w hk hS
          simp only [resE, List.cons_append, List.nil_append, Nat.zero_add, Nat.reduceAdd] at hS
          replace hk := Kn.kp [2, 3, 54, 55, 56, 61, 63, 64] hk
          simp only [HV.of, Nat.zero_add, Nat.reduceAdd] at hk
          generalize us 3 = v63 at hS hk
          generalize us 4 = v64 at hS hk
          obtain ⟨hd1, rfl, hS1⟩ := St.tree hS (.there .here)
          clear hS
          have hS := hS1
          clear hS1
          rw [ndOf_ndV] at hS
          (repeat' (first | (show wpListIn _ _ _ _ _ (_ :: _) _ _; first | (refine wx1 ?_; clear hk a; intro a hk) | (refine wx2 ?_ ?_ <;> (intro hp; clear hk a; intro a hk)) | (refine wx3 ?_; clear hk hS a; intro w b hS a hk) | (refine wx4 ?_; clear hk hS a; intro w hS a hk) | (refine wx5 ?_; clear hk hS a; intro w v hS a hk) | fail) | refine wx0 ?_ | (refine s_end hk ?_; clear hk a; intro a hk) | fail))
          have hl1 : (H' ++ [hd1]).length = j + 1 := by rw [List.length_append, hHl]; rfl
          rename Value => vn
          obtain ⟨aovn, cvn, hshp, _⟩ := (OwT.rd (hS.rd (A := OwT 42 _ vn) (by (repeat (first | exact At.here | apply At.there))))).shape; subst hshp
          rw [hl1] at hS hk
          (repeat' (first | (show wpListIn _ _ _ _ _ (_ :: _) _ _; first | (refine wx1 ?_; clear hk a; intro a hk) | (refine wx2 ?_ ?_ <;> (intro hp; clear hk a; intro a hk)) | (refine wx3 ?_; clear hk hS a; intro w b hS a hk) | (refine wx4 ?_; clear hk hS a; intro w hS a hk) | (refine wx5 ?_; clear hk hS a; intro w v hS a hk) | fail) | refine wx0 ?_ | (refine s_end hk ?_; clear hk a; intro a hk) | fail))
          have hS1 := forR.snoc (ts := kids.take j) (H := H') (t := tk) (h := hd1) (L := [OwT 42 (H' ++ [hd1]) (.slice aovn (j + 1) cvn), pts b3 [.int .i64 k, .string tag, .string key, .string text, .slice a21 cl.length m21, .slice ao al.length c, .slice bo sl.length f, .int .i64 e, .int .i64 lv, .int .i64 m, .int .i64 d, .bool p, .bool q, .slice aovn (j + 1) cvn] 42, OwT 75 sl (.slice bo sl.length f), OwT 73 al (.slice ao al.length c), appH 9 cl (.slice a21 cl.length m21), pts b2 [.int .i64 0, .string ⟨#[]⟩, .string ⟨#[]⟩, .string ⟨#[]⟩, .slice none 0 0, .slice none 0 0, .slice none 0 0, .int .i64 0, .int .i64 0, .int .i64 0, .int .i64 0, .bool false, .bool false, .slice none 0 0] 42, pts b1 [.int .i64 k, .string tag, .string key, .string text, .slice a1 cl.length m1, .slice a2 al.length m2, .slice a3 sl.length m3, .int .i64 e, .int .i64 lv, .int .i64 m, .int .i64 d, .bool p, .bool q, .slice a4 H.length m4] 33]) (hS.sub (by (repeat (first | exact Sub.nil | exact Sub.refl | refine Sub.cons (by (repeat (first | exact At.here | apply At.there))) ?_))))
          rw [← hst] at hS1
          exact ⟨hjl, ((aovn, cvn), H' ++ [hd1]), hk.sd, hS1, trivial⟩
        · have hjj : j = kids.length := by have := hF.1; omega
          subst hjj
          rw [List.take_length] at hS
          simp only at hS hk
          (repeat' (first | (show wpListIn _ _ _ _ _ (_ :: _) _ _; first | (refine wx1 ?_; clear hk a; intro a hk) | (refine wx2 ?_ ?_ <;> (intro hp; clear hk a; intro a hk)) | (refine wx3 ?_; clear hk hS a; intro w b hS a hk) | (refine wx4 ?_; clear hk hS a; intro w hS a hk) | (refine wx5 ?_; clear hk hS a; intro w v hS a hk) | fail) | refine wx0 ?_ | (refine s_end hk ?_; clear hk a; intro a hk) | fail))
          refine done1R hk rfl (.str hS (hT := aT rfl) (hs := zT rfl)) (h := ?_)
          exact treeH.of (h := (k, tag, key, text, ⟨a21, cl.length, m21⟩, ⟨ao, al.length, c⟩, ⟨bo, sl.length, f⟩, (e, lv, m, d, p, q), ⟨ak, kids.length, ck⟩)) (treeR.of (A1 := appH 9 cl (.slice a21 cl.length m21)) (A2 := OwT 73 al (.slice ao al.length c)) (A3 := OwT 75 sl (.slice bo sl.length f)) (A4 := OwT 42 H' (.slice ak kids.length ck)) (hS.sub (by (repeat (first | exact Sub.nil | exact Sub.refl | refine Sub.cons (by (repeat (first | exact At.here | apply At.there))) ?_)))))
end Go.Proofs.YtipdgobplfkipaaGreatDoor
namespace Go.Proofs.YtipdgobplfkipaaGreatDoor
open Go.RowKit

noncomputable section
open Classical in
mutual
def samT : Tree → Tree → Bool
  | .mk k tag key text cl al sl o kids, .mk k' tag' key' text' cl' al' sl' o' kids' =>
    decide (k = k' ∧ tag = tag' ∧ key = key' ∧ text = text' ∧ o = o' ∧ cl = cl' ∧ snapF nmS al = snapF nmS al' ∧ snapF nmI sl = snapF nmI sl') && samL kids kids'
def samL : List Tree → List Tree → Bool
  | [], [] => true
  | t :: ts, u :: us => samT t u && samL ts us
  | [], _ :: _ => false
  | _ :: _, [] => false
end
end
theorem samL_iff : ∀ (ts us : List Tree), samL ts us = true ↔ ts.length = us.length ∧ ∀ (i : Nat) (t u : Tree), ts[i]? = some t → us[i]? = some u → samT t u = true
  | [], [] => by simp [samL]
  | [], _ :: _ => by simp [samL]
  | _ :: _, [] => by simp [samL]
  | t :: ts, u :: us => by
    rw [samL, Bool.and_eq_true, samL_iff ts us]
    constructor
    · rintro ⟨h1, h2, h3⟩
      refine ⟨by simp [h2], fun i a b ha hb => ?_⟩
      cases i with
      | zero => simp at ha hb; subst ha hb; exact h1
      | succ i => simp at ha hb; exact h3 i a b ha hb
    · rintro ⟨h1, h2⟩
      exact ⟨h2 0 t u rfl rfl, by simpa using h1, fun i a b ha hb => h2 (i + 1) a b (by simpa using ha) (by simpa using hb)⟩
theorem sam_iff {k k' : Int} {tag key text tag' key' text' : ByteArray} {cl cl' : List ByteArray} {al al' : List (ByteArray × ByteArray)} {sl sl' : List (ByteArray × Int)} {o o' : Opt} {kids kids' : List Tree} :
    samT (.mk k tag key text cl al sl o kids) (.mk k' tag' key' text' cl' al' sl' o' kids') = true ↔
      (k = k' ∧ tag = tag' ∧ key = key' ∧ text = text' ∧ o = o' ∧ cl = cl' ∧ snapF nmS al = snapF nmS al' ∧ snapF nmI sl = snapF nmI sl') ∧ samL kids kids' = true := by
  rw [samT, Bool.and_eq_true, decide_eq_true_iff]
theorem sam_refl : ∀ (n : Nat) (t : Tree), SizeOf.sizeOf t < n → samT t t = true
  | 0, _, h => by omega
  | n + 1, .mk k tag key text cl al sl o kids, h => by
    rw [sam_iff]
    refine ⟨⟨rfl, rfl, rfl, rfl, rfl, rfl, rfl, rfl⟩, (samL_iff _ _).2 ⟨rfl, fun i t u ht hu => ?_⟩⟩
    rw [ht] at hu
    cases hu
    exact sam_refl n t (by have := kid_lt (k := k) (tag := tag) (key := key) (text := text) (cl := cl) (at_ := al) (st := sl) (o := o) (List.mem_of_getElem? ht); omega)
theorem sam_self (t : Tree) : samT t t = true := sam_refl _ t (Nat.lt_succ_self _)
theorem sam_false {t u : Tree} (h : ¬ samT t u = true) : samT t u = false := by simpa using h
end Go.Proofs.YtipdgobplfkipaaGreatDoor
namespace Go.Proofs.YtipdgobplfkipaaGreatDoor
open Go.RowKit
set_option maxRecDepth 100000
attribute [local irreducible] Go.Code.wpIn Go.wpListIn Go.Calls Gives Go.Exit.then Go.Exit.inBlock Done ObxE

abbrev nodeV (k : Int) (tag key text : ByteArray) (a1 : Option Addr) (n1 m1 : Nat) (a2 : Option Addr) (n2 m2 : Nat) (a3 : Option Addr) (n3 m3 : Nat) (e lv m d : Int) (p q : Bool) (a4 : Option Addr) (n4 m4 : Nat) : Value :=
  .agg #[.int .i64 k, .string tag, .string key, .string text, .slice a1 n1 m1, .slice a2 n2 m2, .slice a3 n3 m3, .int .i64 e, .int .i64 lv, .int .i64 m, .int .i64 d, .bool p, .bool q, .slice a4 n4 m4]

end Go.Proofs.YtipdgobplfkipaaGreatDoor
namespace Go.Proofs.YtipdgobplfkipaaGreatDoor
open Go.RowKit
set_option maxRecDepth 100000
attribute [local irreducible] Go.Code.wpIn Go.wpListIn Go.Calls Gives Go.Exit.then Go.Exit.inBlock Done ObxE

set_option maxHeartbeats 8000000 in
theorem sameRW_any : ∀ (n : Nat) (t u : Tree) (h g : NdH) (w0 : World), SizeOf.sizeOf t < n → FitsW t → FitsW u → TrR w0 t h → TrR w0 u g → Calls Tryz.prog 28 #[ndV h, ndV g] w0 (Ret fun v w => v = .bool (samT t u) ∧ St w0 [] w)
  | 0, _, _, _, _, _, hn, _, _, _, _ => by omega
  | n + 1, t, u, h, g, w0, hn, hf, hf', hr, hr' => by
    have ih := sameRW_any n
    obtain ⟨k, tag, key, text, cl, al, sl, e, lv, m, d, p, q, kids, a1, m1, a2, m2, a3, m3, a4, m4, H, rfl, rfl, c1, c2, c3, c4, hF⟩ := hr.split
    obtain ⟨k', tag', key', text', cl', al', sl', e', lv', m', d', p', q', kids', b1', n1, b2', n2, b3', n3, b4', n4, G, rfl, rfl, g1, g2, g3, g4, hG⟩ := hr'.split
    obtain ⟨l1, l2, l3, l4, l5⟩ := hf
    obtain ⟨l1', l2', l3', l4', l5'⟩ := hf'
    have hHk : H.length = kids.length := hF.1
    have hGk : G.length = kids'.length := hG.1
    show Calls Tryz.prog 28 #[nodeV k tag key text a1 cl.length m1 a2 al.length m2 a3 sl.length m3 e lv m d p q a4 H.length m4, nodeV k' tag' key' text' b1' cl'.length n1 b2' al'.length n2 b3' sl'.length n3 e' lv' m' d' p' q' b4' G.length n4] w0 _
    have hiff := sam_iff (k := k) (k' := k') (tag := tag) (tag' := tag') (key := key) (key' := key') (text := text) (text' := text') (cl := cl) (cl' := cl') (al := al) (al' := al') (sl := sl) (sl' := sl') (o := (e, lv, m, d, p, q)) (o' := (e', lv', m', d', p', q')) (kids := kids) (kids' := kids')
    rw [samL_iff] at hiff
    refine enter Tryz.func28 rfl Tryz.ntmps28 rfl (fun a hk => ?_); have hS := St.refl w0
    refine wpIn_seq ?_; refine wpIn_region_lit ?_
    refine st_box hk hS ?_; clear hk hS a; intro w b1 hS a hk
    refine st_box hk hS ?_; clear hk hS a; intro w b2 hS a hk
    (repeat' (first | (show wpListIn _ _ _ _ _ (_ :: _) _ _; first | (refine wx1 ?_; clear hk a; intro a hk) | (refine wx2 ?_ ?_ <;> (intro hp; clear hk a; intro a hk)) | (refine wx3 ?_; clear hk hS a; intro w b hS a hk) | (refine wx4 ?_; clear hk hS a; intro w hS a hk) | (refine wx5 ?_; clear hk hS a; intro w v hS a hk) | fail) | refine wx0 ?_ | (refine s_end hk ?_; clear hk a; intro a hk) | fail))
    rotate_left
    all_goals try (
      refine done1 hk (h := ⟨congrArg Value.bool (sam_false fun hh => ?_).symm, hS.nil⟩)
      obtain ⟨⟨q1, q2, q3, q4, q5, q6, q7, q8⟩, q9, q10⟩ := hiff.1 hh
      first
        | exact absurd q1 (by assumption)
        | exact absurd q2 (by assumption)
        | exact absurd q3 (by assumption)
        | exact absurd q4 (by assumption)
        | (have := congrArg List.length q6; omega)
        | omega
        | (simp only [Prod.mk.injEq] at q5; obtain ⟨rfl, rfl, rfl, rfl, rfl, rfl⟩ := q5; exact absurd ((eqC_self _).symm.trans (by assumption)) (by decide)))
    have ho : ((e, lv, m, d, p, q) : Opt) = (e', lv', m', d', p', q') := by
      have := eqC_enc (α := Opt) (x := (e, lv, m, d, p, q)) (y := (e', lv', m', d', p', q')) (b := true) (by assumption)
      rwa [if_pos rfl] at this
    have hlc : cl.length = cl'.length := by omega
    have hlk : H.length = G.length := by omega
    have hb1 : k = k' := by assumption
    have hb2 : tag = tag' := by assumption
    have hb3 : key = key' := by assumption
    have hb4 : text = text' := by assumption
    replace hk := Kn.kp [2, 3, 66, 67] hk
    refine wp_for cl.length (fun i _ => [(67, .int .i64 (i : Int))]) (fun _ _ => [pts b2 [.int .i64 k', .string tag', .string key', .string text', .slice b1' cl'.length n1, .slice b2' al'.length n2, .slice b3' sl'.length n3, .int .i64 e', .int .i64 lv', .int .i64 m', .int .i64 d', .bool p', .bool q', .slice b4' G.length n4] 42, pts b1 [.int .i64 k, .string tag, .string key, .string text, .slice a1 cl.length m1, .slice a2 al.length m2, .slice a3 sl.length m3, .int .i64 e, .int .i64 lv, .int .i64 m, .int .i64 d, .bool p, .bool q, .slice a4 H.length m4] 42]) (fun i _ => ∀ j, j < i → cl[j]? = cl'[j]?) () hk (by repeat (first | exact trivial | refine ⟨rfl, ?_⟩)) hS.sb (fun j hj => by omega) ?_
    clear hk hS a
    rintro i - a w hi hk hS hEq
    by_cases hil : i < cl.length
    · obtain ⟨x, hx⟩ : ∃ x, cl[i]? = some x := ⟨_, List.getElem?_eq_getElem hil⟩
      obtain ⟨y, hy⟩ : ∃ y, cl'[i]? = some y := ⟨_, List.getElem?_eq_getElem (by omega)⟩
      have hv1 := hS.rdT c1
      have hv2 := hS.rdT g1
      (repeat' (first | (show wpListIn _ _ _ _ _ (_ :: _) _ _; first | (refine wx1 ?_; clear hk a; intro a hk) | (refine wx2 ?_ ?_ <;> (intro hp; clear hk a; intro a hk)) | (refine wx3 ?_; clear hk hS a; intro w b hS a hk) | (refine wx4 ?_; clear hk hS a; intro w hS a hk) | (refine wx5 ?_; clear hk hS a; intro w v hS a hk) | fail) | refine wx0 ?_ | (refine s_end hk ?_; clear hk a; intro a hk) | fail))
      refine wp_drawn 10 mixed (by kernel_rfl) hk hS ?_; clear hk hS a
      (repeat' (first | (show ObxE _ _ _ _ _ _ _ _ _ (_ :: _) _ _ _; first | refine ox1 ?_ | (refine ox2 ?_ ?_ <;> intro hp) | fail) | fail))
      all_goals (
        refine obe_nil ⟨rfl, ?_⟩; intro us a w hk hS
        (repeat' (first | (show wpListIn _ _ _ _ _ (_ :: _) _ _; first | (refine wx1 ?_; clear hk a; intro a hk) | (refine wx2 ?_ ?_ <;> (intro hp; clear hk a; intro a hk)) | (refine wx3 ?_; clear hk hS a; intro w b hS a hk) | (refine wx4 ?_; clear hk hS a; intro w hS a hk) | (refine wx5 ?_; clear hk hS a; intro w v hS a hk) | fail) | refine wx0 ?_ | (refine s_end hk ?_; clear hk a; intro a hk) | fail)))
      · have he : x = y := by assumption
        refine ⟨hil, (), hk.sd, hS.sb, fun j hj => ?_⟩
        by_cases e : j = i
        · subst e; rw [hx, hy, he]
        · exact hEq j (by omega)
      · have he : ¬ x = y := by assumption
        refine done1 hk (h := ⟨congrArg Value.bool (sam_false fun hh => ?_).symm, hS.nil⟩)
        obtain ⟨⟨q1, q2, q3, q4, q5, q6, q7, q8⟩, q9, q10⟩ := hiff.1 hh
        rw [q6, hy] at hx
        exact he (Option.some.inj hx).symm
    · have : i = cl.length := by omega
      subst this
      have hcl : cl = cl' := List.ext_getElem? fun j => by
        by_cases hj : j < cl.length
        · exact hEq j hj
        · rw [List.getElem?_eq_none (by omega), List.getElem?_eq_none (by omega)]
      (repeat' (first | (show wpListIn _ _ _ _ _ (_ :: _) _ _; first | (refine wx1 ?_; clear hk a; intro a hk) | (refine wx2 ?_ ?_ <;> (intro hp; clear hk a; intro a hk)) | (refine wx3 ?_; clear hk hS a; intro w b hS a hk) | (refine wx4 ?_; clear hk hS a; intro w hS a hk) | (refine wx5 ?_; clear hk hS a; intro w v hS a hk) | fail) | refine wx0 ?_ | (refine s_end hk ?_; clear hk a; intro a hk) | fail))
      refine wp_drawn 6 mixed (by kernel_rfl) hk hS ?_; clear hk hS a
      (repeat' (first | (show ObxE _ _ _ _ _ _ _ _ _ (_ :: _) _ _ _; first | refine ox1 ?_ | (refine ox2 ?_ ?_ <;> intro hp) | fail) | fail))
      refine' obe_res (fun us a w hk hd hS => ?_) ?_; rotate_left; focus (have hk := Kn.vw hk (by repeat (first | exact VW.nil | apply VW.val rfl | apply VW.base rfl rfl | apply VW.res rfl | apply VW.upd rfl | apply VW.cpy rfl | apply VW.dep rfl | apply VW.fn rfl | apply VW.lnd rfl | apply VW.tak rfl)); exact g_callO hk (hf := by kernel_rfl) (hc := attrs07_any al _ _ (hS.rdT c2) (by omega)) (h := fun _ _ h => h))
      (repeat' (first | (show ObxE _ _ _ _ _ _ _ _ _ (_ :: _) _ _ _; first | refine ox1 ?_ | (refine ox2 ?_ ?_ <;> intro hp) | fail) | fail))
      refine' obe_res (fun us a w hk hd hS => ?_) ?_; rotate_left; focus (have hk := Kn.vw hk (by repeat (first | exact VW.nil | apply VW.val rfl | apply VW.base rfl rfl | apply VW.res rfl | apply VW.upd rfl | apply VW.cpy rfl | apply VW.dep rfl | apply VW.fn rfl | apply VW.lnd rfl | apply VW.tak rfl)); exact g_callO hk (hf := by kernel_rfl) (hc := attrs07_any al' _ _ (hS.rdT g2) (by omega)) (h := fun _ _ h => h))
      refine obe_nil ⟨rfl, ?_⟩; intro us a w hk hS
      simp only [resE, List.cons_append, List.nil_append, Nat.zero_add, Nat.reduceAdd] at hS
      replace hk := Kn.kp [2, 3, 84, 87] hk
      simp only [HV.of, Nat.zero_add, Nat.reduceAdd] at hk
      generalize us 2 = va at hS hk
      generalize us 5 = vb at hS hk
      clear us
      (repeat' (first | (show wpListIn _ _ _ _ _ (_ :: _) _ _; first | (refine wx1 ?_; clear hk a; intro a hk) | (refine wx2 ?_ ?_ <;> (intro hp; clear hk a; intro a hk)) | (refine wx3 ?_; clear hk hS a; intro w b hS a hk) | (refine wx4 ?_; clear hk hS a; intro w hS a hk) | (refine wx5 ?_; clear hk hS a; intro w v hS a hk) | fail) | refine wx0 ?_ | (refine s_end hk ?_; clear hk a; intro a hk) | fail))
      refine wp_drawn 6 mixed (by kernel_rfl) hk hS ?_; clear hk hS a
      (repeat' (first | (show ObxE _ _ _ _ _ _ _ _ _ (_ :: _) _ _ _; first | refine ox1 ?_ | (refine ox2 ?_ ?_ <;> intro hp) | fail) | fail))
      refine' obe_res (fun us a w hk hd hS => ?_) ?_; rotate_left; focus (have hk := Kn.vw hk (by repeat (first | exact VW.nil | apply VW.val rfl | apply VW.base rfl rfl | apply VW.res rfl | apply VW.upd rfl | apply VW.cpy rfl | apply VW.dep rfl | apply VW.fn rfl | apply VW.lnd rfl | apply VW.tak rfl)); exact g_callO hk (hf := by kernel_rfl) (hc := refOf_any sl _ _ (hS.rdT c3) (by omega)) (h := fun _ _ h => h))
      (repeat' (first | (show ObxE _ _ _ _ _ _ _ _ _ (_ :: _) _ _ _; first | refine ox1 ?_ | (refine ox2 ?_ ?_ <;> intro hp) | fail) | fail))
      refine' obe_res (fun us a w hk hd hS => ?_) ?_; rotate_left; focus (have hk := Kn.vw hk (by repeat (first | exact VW.nil | apply VW.val rfl | apply VW.base rfl rfl | apply VW.res rfl | apply VW.upd rfl | apply VW.cpy rfl | apply VW.dep rfl | apply VW.fn rfl | apply VW.lnd rfl | apply VW.tak rfl)); exact g_callO hk (hf := by kernel_rfl) (hc := refOf_any sl' _ _ (hS.rdT g3) (by omega)) (h := fun _ _ h => h))
      refine obe_nil ⟨rfl, ?_⟩; intro us a w hk hS
      simp only [resE, List.cons_append, List.nil_append, Nat.zero_add, Nat.reduceAdd] at hS
      replace hk := Kn.kp [2, 3, 6, 7, 90, 93] hk
      simp only [HV.of, Nat.zero_add, Nat.reduceAdd] at hk
      generalize us 2 = vc at hS hk
      generalize us 5 = vd at hS hk
      clear us
      have hs1 := snap_len nmS al
      have hs2 := snap_len nmS al'
      have hs3 := snap_len nmI sl
      have hs4 := snap_len nmI sl'
      generalize snapF nmS al = S1 at *
      generalize snapF nmS al' = S2 at *
      generalize snapF nmI sl = I1 at *
      generalize snapF nmI sl' = I2 at *
      (repeat' (first | (show wpListIn _ _ _ _ _ (_ :: _) _ _; first | (refine wx1 ?_; clear hk a; intro a hk) | (refine wx2 ?_ ?_ <;> (intro hp; clear hk a; intro a hk)) | (refine wx3 ?_; clear hk hS a; intro w b hS a hk) | (refine wx4 ?_; clear hk hS a; intro w hS a hk) | (refine wx5 ?_; clear hk hS a; intro w v hS a hk) | fail) | refine wx0 ?_ | (refine s_end hk ?_; clear hk a; intro a hk) | fail))
      rotate_left
      · refine done1 hk (h := ⟨congrArg Value.bool (sam_false fun hh => ?_).symm, hS.nil⟩)
        obtain ⟨⟨q1, q2, q3, q4, q5, q6, q7, q8⟩, q9, q10⟩ := hiff.1 hh
        have := congrArg List.length q8
        omega
      · refine done1 hk (h := ⟨congrArg Value.bool (sam_false fun hh => ?_).symm, hS.nil⟩)
        obtain ⟨⟨q1, q2, q3, q4, q5, q6, q7, q8⟩, q9, q10⟩ := hiff.1 hh
        have := congrArg List.length q7
        omega
      replace hk := Kn.kp [2, 3, 6, 7, 8, 9, 107, 108] hk
      refine wp_for S1.length (fun i _ => [(108, .int .i64 (i : Int))]) (fun _ _ => [OwT 73 S1 va, OwT 73 S2 vb, OwT 75 I1 vc, OwT 75 I2 vd, pts b2 [.int .i64 k', .string tag', .string key', .string text', .slice b1' cl'.length n1, .slice b2' al'.length n2, .slice b3' sl'.length n3, .int .i64 e', .int .i64 lv', .int .i64 m', .int .i64 d', .bool p', .bool q', .slice b4' G.length n4] 42, pts b1 [.int .i64 k, .string tag, .string key, .string text, .slice a1 cl.length m1, .slice a2 al.length m2, .slice a3 sl.length m3, .int .i64 e, .int .i64 lv, .int .i64 m, .int .i64 d, .bool p, .bool q, .slice a4 H.length m4] 42]) (fun i _ => ∀ j, j < i → S1[j]? = S2[j]?) () hk (by repeat (first | exact trivial | refine ⟨rfl, ?_⟩)) hS.sb (fun j hj => by omega) ?_
      clear hk hS a
      rintro i - a w hi hk hS hEq1
      by_cases hil : i < S1.length
      · obtain ⟨⟨nm, val⟩, hx⟩ : ∃ x, S1[i]? = some x := ⟨_, List.getElem?_eq_getElem hil⟩
        obtain ⟨⟨nm', val'⟩, hy⟩ : ∃ y, S2[i]? = some y := ⟨_, List.getElem?_eq_getElem (by omega)⟩
        (repeat' (first | (show wpListIn _ _ _ _ _ (_ :: _) _ _; first | (refine wx1 ?_; clear hk a; intro a hk) | (refine wx2 ?_ ?_ <;> (intro hp; clear hk a; intro a hk)) | (refine wx3 ?_; clear hk hS a; intro w b hS a hk) | (refine wx4 ?_; clear hk hS a; intro w hS a hk) | (refine wx5 ?_; clear hk hS a; intro w v hS a hk) | fail) | refine wx0 ?_ | (refine s_end hk ?_; clear hk a; intro a hk) | fail))
        refine wp_drawn 8 mixed (by kernel_rfl) hk hS ?_; clear hk hS a
        (repeat' (first | (show ObxE _ _ _ _ _ _ _ _ _ (_ :: _) _ _ _; first | refine ox1 ?_ | (refine ox2 ?_ ?_ <;> intro hp) | fail) | fail))
        all_goals (
          refine obe_nil ⟨rfl, ?_⟩; intro us a w hk hS
          (repeat' (first | (show wpListIn _ _ _ _ _ (_ :: _) _ _; first | (refine wx1 ?_; clear hk a; intro a hk) | (refine wx2 ?_ ?_ <;> (intro hp; clear hk a; intro a hk)) | (refine wx3 ?_; clear hk hS a; intro w b hS a hk) | (refine wx4 ?_; clear hk hS a; intro w hS a hk) | (refine wx5 ?_; clear hk hS a; intro w v hS a hk) | fail) | refine wx0 ?_ | (refine s_end hk ?_; clear hk a; intro a hk) | fail)))
        · have he : (nm, val) = (nm', val') := by
            have := eqC_enc (α := PrS) (x := (nm, val)) (y := (nm', val')) (b := true) (by assumption)
            rwa [if_pos rfl] at this
          refine ⟨hil, (), hk.sd, hS.sb, fun j hj => ?_⟩
          by_cases e : j = i
          · subst e; rw [hx, hy, he]
          · exact hEq1 j (by omega)
        · have he : ¬ (nm, val) = (nm', val') := by
            have := eqC_enc (α := PrS) (x := (nm, val)) (y := (nm', val')) (b := false) (by assumption)
            rwa [if_neg (by decide)] at this
          refine done1 hk (h := ⟨congrArg Value.bool (sam_false fun hh => ?_).symm, hS.nil⟩)
          obtain ⟨⟨q1, q2, q3, q4, q5, q6, q7, q8⟩, q9, q10⟩ := hiff.1 hh
          rw [q7, hy] at hx
          exact he (Option.some.inj hx).symm
      · have : i = S1.length := by omega
        subst this
        have hcS : S1 = S2 := List.ext_getElem? fun j => by
            by_cases hj : j < S1.length
            · exact hEq1 j hj
            · rw [List.getElem?_eq_none (by omega), List.getElem?_eq_none (by omega)]
        (repeat' (first | (show wpListIn _ _ _ _ _ (_ :: _) _ _; first | (refine wx1 ?_; clear hk a; intro a hk) | (refine wx2 ?_ ?_ <;> (intro hp; clear hk a; intro a hk)) | (refine wx3 ?_; clear hk hS a; intro w b hS a hk) | (refine wx4 ?_; clear hk hS a; intro w hS a hk) | (refine wx5 ?_; clear hk hS a; intro w v hS a hk) | fail) | refine wx0 ?_ | (refine s_end hk ?_; clear hk a; intro a hk) | fail))
        replace hk := Kn.kp [2, 3, 8, 9, 122, 123] hk
        refine wp_for I1.length (fun i _ => [(123, .int .i64 (i : Int))]) (fun _ _ => [OwT 73 S1 va, OwT 73 S2 vb, OwT 75 I1 vc, OwT 75 I2 vd, pts b2 [.int .i64 k', .string tag', .string key', .string text', .slice b1' cl'.length n1, .slice b2' al'.length n2, .slice b3' sl'.length n3, .int .i64 e', .int .i64 lv', .int .i64 m', .int .i64 d', .bool p', .bool q', .slice b4' G.length n4] 42, pts b1 [.int .i64 k, .string tag, .string key, .string text, .slice a1 cl.length m1, .slice a2 al.length m2, .slice a3 sl.length m3, .int .i64 e, .int .i64 lv, .int .i64 m, .int .i64 d, .bool p, .bool q, .slice a4 H.length m4] 42]) (fun i _ => ∀ j, j < i → I1[j]? = I2[j]?) () hk (by repeat (first | exact trivial | refine ⟨rfl, ?_⟩)) hS.sb (fun j hj => by omega) ?_
        clear hk hS a
        rintro i - a w hi hk hS hEq2
        by_cases hil : i < I1.length
        · obtain ⟨⟨nm, val⟩, hx⟩ : ∃ x, I1[i]? = some x := ⟨_, List.getElem?_eq_getElem hil⟩
          obtain ⟨⟨nm', val'⟩, hy⟩ : ∃ y, I2[i]? = some y := ⟨_, List.getElem?_eq_getElem (by omega)⟩
          (repeat' (first | (show wpListIn _ _ _ _ _ (_ :: _) _ _; first | (refine wx1 ?_; clear hk a; intro a hk) | (refine wx2 ?_ ?_ <;> (intro hp; clear hk a; intro a hk)) | (refine wx3 ?_; clear hk hS a; intro w b hS a hk) | (refine wx4 ?_; clear hk hS a; intro w hS a hk) | (refine wx5 ?_; clear hk hS a; intro w v hS a hk) | fail) | refine wx0 ?_ | (refine s_end hk ?_; clear hk a; intro a hk) | fail))
          refine wp_drawn 8 mixed (by kernel_rfl) hk hS ?_; clear hk hS a
          (repeat' (first | (show ObxE _ _ _ _ _ _ _ _ _ (_ :: _) _ _ _; first | refine ox1 ?_ | (refine ox2 ?_ ?_ <;> intro hp) | fail) | fail))
          all_goals (
            refine obe_nil ⟨rfl, ?_⟩; intro us a w hk hS
            (repeat' (first | (show wpListIn _ _ _ _ _ (_ :: _) _ _; first | (refine wx1 ?_; clear hk a; intro a hk) | (refine wx2 ?_ ?_ <;> (intro hp; clear hk a; intro a hk)) | (refine wx3 ?_; clear hk hS a; intro w b hS a hk) | (refine wx4 ?_; clear hk hS a; intro w hS a hk) | (refine wx5 ?_; clear hk hS a; intro w v hS a hk) | fail) | refine wx0 ?_ | (refine s_end hk ?_; clear hk a; intro a hk) | fail)))
          · have he : (nm, val) = (nm', val') := by
              have := eqC_enc (α := PrI) (x := (nm, val)) (y := (nm', val')) (b := true) (by assumption)
              rwa [if_pos rfl] at this
            refine ⟨hil, (), hk.sd, hS.sb, fun j hj => ?_⟩
            by_cases e : j = i
            · subst e; rw [hx, hy, he]
            · exact hEq2 j (by omega)
          · have he : ¬ (nm, val) = (nm', val') := by
              have := eqC_enc (α := PrI) (x := (nm, val)) (y := (nm', val')) (b := false) (by assumption)
              rwa [if_neg (by decide)] at this
            refine done1 hk (h := ⟨congrArg Value.bool (sam_false fun hh => ?_).symm, hS.nil⟩)
            obtain ⟨⟨q1, q2, q3, q4, q5, q6, q7, q8⟩, q9, q10⟩ := hiff.1 hh
            rw [q8, hy] at hx
            exact he (Option.some.inj hx).symm
        · have : i = I1.length := by omega
          subst this
          have hcI : I1 = I2 := List.ext_getElem? fun j => by
            by_cases hj : j < I1.length
            · exact hEq2 j hj
            · rw [List.getElem?_eq_none (by omega), List.getElem?_eq_none (by omega)]
          (repeat' (first | (show wpListIn _ _ _ _ _ (_ :: _) _ _; first | (refine wx1 ?_; clear hk a; intro a hk) | (refine wx2 ?_ ?_ <;> (intro hp; clear hk a; intro a hk)) | (refine wx3 ?_; clear hk hS a; intro w b hS a hk) | (refine wx4 ?_; clear hk hS a; intro w hS a hk) | (refine wx5 ?_; clear hk hS a; intro w v hS a hk) | fail) | refine wx0 ?_ | (refine s_end hk ?_; clear hk a; intro a hk) | fail))
          replace hk := Kn.kp [2, 3, 138, 139] hk
          refine wp_for H.length (fun i _ => [(139, .int .i64 (i : Int))]) (fun _ _ => [pts b2 [.int .i64 k', .string tag', .string key', .string text', .slice b1' cl'.length n1, .slice b2' al'.length n2, .slice b3' sl'.length n3, .int .i64 e', .int .i64 lv', .int .i64 m', .int .i64 d', .bool p', .bool q', .slice b4' G.length n4] 42, pts b1 [.int .i64 k, .string tag, .string key, .string text, .slice a1 cl.length m1, .slice a2 al.length m2, .slice a3 sl.length m3, .int .i64 e, .int .i64 lv, .int .i64 m, .int .i64 d, .bool p, .bool q, .slice a4 H.length m4] 42]) (fun i _ => ∀ (j : Nat) (t u : Tree), j < i → kids[j]? = some t → kids'[j]? = some u → samT t u = true) () hk (by repeat (first | exact trivial | refine ⟨rfl, ?_⟩)) hS.sb (fun j t u hj => by omega) ?_
          clear hk hS a
          rintro i - a w hi hk hS hEq3
          by_cases hil : i < H.length
          · obtain ⟨tk, htk⟩ : ∃ t, kids[i]? = some t := ⟨_, List.getElem?_eq_getElem (by omega)⟩
            obtain ⟨uk, huk⟩ : ∃ t, kids'[i]? = some t := ⟨_, List.getElem?_eq_getElem (by omega)⟩
            obtain ⟨hd0, hx⟩ : ∃ x, H[i]? = some x := ⟨_, List.getElem?_eq_getElem hil⟩
            obtain ⟨gd0, hy⟩ : ∃ x, G[i]? = some x := ⟨_, List.getElem?_eq_getElem (by omega)⟩
            have hTr := hF.2 i tk hd0 htk hx
            have hTu := hG.2 i uk gd0 huk hy
            have hfk := l5 tk (List.mem_of_getElem? htk)
            have hfu := l5' uk (List.mem_of_getElem? huk)
            have hlt : SizeOf.sizeOf tk < n := by have := kid_lt (k := k) (tag := tag) (key := key) (text := text) (cl := cl) (at_ := al) (st := sl) (o := (e, lv, m, d, p, q)) (List.mem_of_getElem? htk); omega
            obtain ⟨k0, tag0, key0, text0, ⟨x1, x2, x3⟩, ⟨y1, y2, y3⟩, ⟨z1, z2, z3⟩, ⟨e0, lv0, m0, d0, p0, q0⟩, ⟨u1, u2, u3⟩⟩ := hd0
            obtain ⟨k9, tag9, key9, text9, ⟨x19, x29, x39⟩, ⟨y19, y29, y39⟩, ⟨z19, z29, z39⟩, ⟨e9, lv9, m9, d9, p9, q9⟩, ⟨u19, u29, u39⟩⟩ := gd0
            have hcall := fun w0 h1 h2 => ih tk uk (k0, tag0, key0, text0, ⟨x1, x2, x3⟩, ⟨y1, y2, y3⟩, ⟨z1, z2, z3⟩, (e0, lv0, m0, d0, p0, q0), ⟨u1, u2, u3⟩) (k9, tag9, key9, text9, ⟨x19, x29, x39⟩, ⟨y19, y29, y39⟩, ⟨z19, z29, z39⟩, (e9, lv9, m9, d9, p9, q9), ⟨u19, u29, u39⟩) w0 hlt hfk hfu h1 h2
            have hv1 := hS.rdT c4
            have hv2 := hS.rdT g4
            cases hs : samT tk uk with
            | true =>
              rw [hs] at hcall
              (repeat' (first | (show wpListIn _ _ _ _ _ (_ :: _) _ _; first | (refine wx1 ?_; clear hk a; intro a hk) | (refine wx2 ?_ ?_ <;> (intro hp; clear hk a; intro a hk)) | (refine wx3 ?_; clear hk hS a; intro w b hS a hk) | (refine wx4 ?_; clear hk hS a; intro w hS a hk) | (refine wx5 ?_; clear hk hS a; intro w v hS a hk) | fail) | refine wx0 ?_ | (refine s_end hk ?_; clear hk a; intro a hk) | fail))
              refine wp_drawn 12 mixed (by kernel_rfl) hk hS ?_; clear hk hS a
              (repeat' (first | (show ObxE _ _ _ _ _ _ _ _ _ (_ :: _) _ _ _; first | refine ox1 ?_ | (refine ox2 ?_ ?_ <;> intro hp) | fail) | fail))
              refine' obe_val (fun us a w hk hd hS => ?_) ?_; rotate_left; focus (have hk := Kn.vw hk (by repeat (first | exact VW.nil | apply VW.val rfl | apply VW.base rfl rfl | apply VW.res rfl | apply VW.upd rfl | apply VW.cpy rfl | apply VW.dep rfl | apply VW.fn rfl | apply VW.lnd rfl | apply VW.tak rfl)); exact g_callO hk (hf := by kernel_rfl) (hc := hcall _ (hS.rdTr hTr) (hS.rdTr hTu)) (h := fun _ _ h => h))
              (repeat' (first | (show ObxE _ _ _ _ _ _ _ _ _ (_ :: _) _ _ _; first | refine ox1 ?_ | (refine ox2 ?_ ?_ <;> intro hp) | fail) | fail))
              refine obe_nil ⟨rfl, ?_⟩; intro us a w hk hS
              (repeat' (first | (show wpListIn _ _ _ _ _ (_ :: _) _ _; first | (refine wx1 ?_; clear hk a; intro a hk) | (refine wx2 ?_ ?_ <;> (intro hp; clear hk a; intro a hk)) | (refine wx3 ?_; clear hk hS a; intro w b hS a hk) | (refine wx4 ?_; clear hk hS a; intro w hS a hk) | (refine wx5 ?_; clear hk hS a; intro w v hS a hk) | fail) | refine wx0 ?_ | (refine s_end hk ?_; clear hk a; intro a hk) | fail))
              refine ⟨hil, (), hk.sd, hS.sb, fun j t u hj ht hu => ?_⟩
              by_cases e : j = i
              · subst e
                rw [htk] at ht
                rw [huk] at hu
                cases ht
                cases hu
                exact hs
              · exact hEq3 j t u (by omega) ht hu
            | false =>
              rw [hs] at hcall
              (repeat' (first | (show wpListIn _ _ _ _ _ (_ :: _) _ _; first | (refine wx1 ?_; clear hk a; intro a hk) | (refine wx2 ?_ ?_ <;> (intro hp; clear hk a; intro a hk)) | (refine wx3 ?_; clear hk hS a; intro w b hS a hk) | (refine wx4 ?_; clear hk hS a; intro w hS a hk) | (refine wx5 ?_; clear hk hS a; intro w v hS a hk) | fail) | refine wx0 ?_ | (refine s_end hk ?_; clear hk a; intro a hk) | fail))
              refine wp_drawn 12 mixed (by kernel_rfl) hk hS ?_; clear hk hS a
              (repeat' (first | (show ObxE _ _ _ _ _ _ _ _ _ (_ :: _) _ _ _; first | refine ox1 ?_ | (refine ox2 ?_ ?_ <;> intro hp) | fail) | fail))
              refine' obe_val (fun us a w hk hd hS => ?_) ?_; rotate_left; focus (have hk := Kn.vw hk (by repeat (first | exact VW.nil | apply VW.val rfl | apply VW.base rfl rfl | apply VW.res rfl | apply VW.upd rfl | apply VW.cpy rfl | apply VW.dep rfl | apply VW.fn rfl | apply VW.lnd rfl | apply VW.tak rfl)); exact g_callO hk (hf := by kernel_rfl) (hc := hcall _ (hS.rdTr hTr) (hS.rdTr hTu)) (h := fun _ _ h => h))
              (repeat' (first | (show ObxE _ _ _ _ _ _ _ _ _ (_ :: _) _ _ _; first | refine ox1 ?_ | (refine ox2 ?_ ?_ <;> intro hp) | fail) | fail))
              refine obe_nil ⟨rfl, ?_⟩; intro us a w hk hS
              (repeat' (first | (show wpListIn _ _ _ _ _ (_ :: _) _ _; first | (refine wx1 ?_; clear hk a; intro a hk) | (refine wx2 ?_ ?_ <;> (intro hp; clear hk a; intro a hk)) | (refine wx3 ?_; clear hk hS a; intro w b hS a hk) | (refine wx4 ?_; clear hk hS a; intro w hS a hk) | (refine wx5 ?_; clear hk hS a; intro w v hS a hk) | fail) | refine wx0 ?_ | (refine s_end hk ?_; clear hk a; intro a hk) | fail))
              refine done1 hk (h := ⟨congrArg Value.bool (sam_false fun hh => ?_).symm, hS.nil⟩)
              obtain ⟨⟨q1, q2, q3, q4, q5, q6, q7, q8⟩, q9, q10⟩ := hiff.1 hh
              have := q10 i tk uk htk huk
              rw [hs] at this
              cases this
          · have : i = H.length := by omega
            subst this
            (repeat' (first | (show wpListIn _ _ _ _ _ (_ :: _) _ _; first | (refine wx1 ?_; clear hk a; intro a hk) | (refine wx2 ?_ ?_ <;> (intro hp; clear hk a; intro a hk)) | (refine wx3 ?_; clear hk hS a; intro w b hS a hk) | (refine wx4 ?_; clear hk hS a; intro w hS a hk) | (refine wx5 ?_; clear hk hS a; intro w v hS a hk) | fail) | refine wx0 ?_ | (refine s_end hk ?_; clear hk a; intro a hk) | fail))
            exact done1 hk (h := ⟨congrArg Value.bool (hiff.2 ⟨⟨hb1, hb2, hb3, hb4, ho, hcl, hcS, hcI⟩, by omega, fun j t u ht hu => hEq3 j t u (by have := lt_of_get ht; omega) ht hu⟩).symm, hS.nil⟩)
end Go.Proofs.YtipdgobplfkipaaGreatDoor
namespace Go.Proofs.YtipdgobplfkipaaGreatDoor
open Go.RowKit
set_option maxRecDepth 100000
attribute [local irreducible] Go.Code.wpIn Go.wpListIn Go.Calls Gives Go.Exit.then Go.Exit.inBlock Done ObxE

set_option maxHeartbeats 8000000 in
theorem justW_any : ∀ (n : Nat) (t : Tree) (h g : NdH) (w0 : World), SizeOf.sizeOf t < n → FitsW t → TrR w0 t h → TrR w0 t g → Calls Tryz.prog 11 #[ndV h, ndV g] w0 (Ret fun v w => v = .bool true ∧ St w0 [] w)
  | 0, _, _, _, _, hn, _, _, _ => by omega
  | n + 1, t, h, g, w0, hn, hf, hr, hr' => by
    have ih := justW_any n
    obtain ⟨k, tag, key, text, cl, al, sl, e, lv, m, d, p, q, kids, a1, m1, a2, m2, a3, m3, a4, m4, H, rfl, rfl, c1, c2, c3, c4, hF⟩ := hr.split
    obtain ⟨k', tag', key', text', cl', al', sl', e', lv', m', d', p', q', kids', b1', n1, b2', n2, b3', n3, b4', n4, G, he, rfl, g1, g2, g3, g4, hG⟩ := hr'.split
    injection he with i1 i2 i3 i4 i5 i6 i7 i8 i9
    simp only [Prod.mk.injEq] at i8
    obtain ⟨rfl, rfl, rfl, rfl, rfl, rfl⟩ := i8
    subst i1 i2 i3 i4 i5 i6 i7 i9
    obtain ⟨l1, l2, l3, l4, l5⟩ := hf
    have hHk : H.length = kids.length := hF.1
    have hGk : G.length = kids.length := hG.1
    show Calls Tryz.prog 11 #[nodeV k tag key text a1 cl.length m1 a2 al.length m2 a3 sl.length m3 e lv m d p q a4 H.length m4, nodeV k tag key text b1' cl.length n1 b2' al.length n2 b3' sl.length n3 e lv m d p q b4' G.length n4] w0 _
    refine enter Tryz.func11 rfl Tryz.ntmps11 rfl (fun a hk => ?_); have hS := St.refl w0
    refine wpIn_seq ?_; refine wpIn_region_lit ?_
    refine st_box hk hS ?_; clear hk hS a; intro w b1 hS a hk
    refine st_box hk hS ?_; clear hk hS a; intro w b2 hS a hk
    (repeat' (first | (show wpListIn _ _ _ _ _ (_ :: _) _ _; first | (refine wx1 ?_; clear hk a; intro a hk) | (refine wx2 ?_ ?_ <;> (intro hp; clear hk a; intro a hk)) | (refine wx3 ?_; clear hk hS a; intro w b hS a hk) | (refine wx4 ?_; clear hk hS a; intro w hS a hk) | (refine wx5 ?_; clear hk hS a; intro w v hS a hk) | fail) | refine wx0 ?_ | (refine s_end hk ?_; clear hk a; intro a hk) | fail))
    replace hk := Kn.kp [2, 3, 35, 36] hk
    refine wp_for al.length (fun i _ => [(36, .int .i64 (i : Int))]) (fun _ _ => [pts b2 [.int .i64 k, .string tag, .string key, .string text, .slice b1' cl.length n1, .slice b2' al.length n2, .slice b3' sl.length n3, .int .i64 e, .int .i64 lv, .int .i64 m, .int .i64 d, .bool p, .bool q, .slice b4' G.length n4] 42, pts b1 [.int .i64 k, .string tag, .string key, .string text, .slice a1 cl.length m1, .slice a2 al.length m2, .slice a3 sl.length m3, .int .i64 e, .int .i64 lv, .int .i64 m, .int .i64 d, .bool p, .bool q, .slice a4 H.length m4] 42]) (fun _ _ => True) () hk (by repeat (first | exact trivial | refine ⟨rfl, ?_⟩)) hS.sb trivial ?_
    clear hk hS a
    rintro i - a w hi hk hS -
    by_cases hil : i < al.length
    · obtain ⟨⟨nm, val⟩, hx⟩ : ∃ x, al[i]? = some x := ⟨_, List.getElem?_eq_getElem hil⟩
      have hv1 := hS.rdT c2
      have hv2 := hS.rdT g2
      (repeat' (first | (show wpListIn _ _ _ _ _ (_ :: _) _ _; first | (refine wx1 ?_; clear hk a; intro a hk) | (refine wx2 ?_ ?_ <;> (intro hp; clear hk a; intro a hk)) | (refine wx3 ?_; clear hk hS a; intro w b hS a hk) | (refine wx4 ?_; clear hk hS a; intro w hS a hk) | (refine wx5 ?_; clear hk hS a; intro w v hS a hk) | fail) | refine wx0 ?_ | (refine s_end hk ?_; clear hk a; intro a hk) | fail))
      refine wp_drawn 10 mixed (by kernel_rfl) hk hS ?_; clear hk hS a
      (repeat' (first | (show ObxE _ _ _ _ _ _ _ _ _ (_ :: _) _ _ _; first | refine ox1 ?_ | (refine ox2 ?_ ?_ <;> intro hp) | fail) | fail))
      refine obe_nil ⟨rfl, ?_⟩; intro us a w hk hS
      (repeat' (first | (show wpListIn _ _ _ _ _ (_ :: _) _ _; first | (refine wx1 ?_; clear hk a; intro a hk) | (refine wx2 ?_ ?_ <;> (intro hp; clear hk a; intro a hk)) | (refine wx3 ?_; clear hk hS a; intro w b hS a hk) | (refine wx4 ?_; clear hk hS a; intro w hS a hk) | (refine wx5 ?_; clear hk hS a; intro w v hS a hk) | fail) | refine wx0 ?_ | (refine s_end hk ?_; clear hk a; intro a hk) | fail))
      all_goals first | exact ⟨hil, (), hk.sd, hS.sb, trivial⟩ | exact absurd ((eqC_self _).symm.trans (by assumption)) (by decide)
    · have : i = al.length := by omega
      subst this
      (repeat' (first | (show wpListIn _ _ _ _ _ (_ :: _) _ _; first | (refine wx1 ?_; clear hk a; intro a hk) | (refine wx2 ?_ ?_ <;> (intro hp; clear hk a; intro a hk)) | (refine wx3 ?_; clear hk hS a; intro w b hS a hk) | (refine wx4 ?_; clear hk hS a; intro w hS a hk) | (refine wx5 ?_; clear hk hS a; intro w v hS a hk) | fail) | refine wx0 ?_ | (refine s_end hk ?_; clear hk a; intro a hk) | fail))
      replace hk := Kn.kp [2, 3, 53, 54] hk
      refine wp_for sl.length (fun i _ => [(54, .int .i64 (i : Int))]) (fun _ _ => [pts b2 [.int .i64 k, .string tag, .string key, .string text, .slice b1' cl.length n1, .slice b2' al.length n2, .slice b3' sl.length n3, .int .i64 e, .int .i64 lv, .int .i64 m, .int .i64 d, .bool p, .bool q, .slice b4' G.length n4] 42, pts b1 [.int .i64 k, .string tag, .string key, .string text, .slice a1 cl.length m1, .slice a2 al.length m2, .slice a3 sl.length m3, .int .i64 e, .int .i64 lv, .int .i64 m, .int .i64 d, .bool p, .bool q, .slice a4 H.length m4] 42]) (fun _ _ => True) () hk (by repeat (first | exact trivial | refine ⟨rfl, ?_⟩)) hS.sb trivial ?_
      clear hk hS a
      rintro i - a w hi hk hS -
      by_cases hil : i < sl.length
      · obtain ⟨⟨nm, val⟩, hx⟩ : ∃ x, sl[i]? = some x := ⟨_, List.getElem?_eq_getElem hil⟩
        have hv1 := hS.rdT c3
        have hv2 := hS.rdT g3
        (repeat' (first | (show wpListIn _ _ _ _ _ (_ :: _) _ _; first | (refine wx1 ?_; clear hk a; intro a hk) | (refine wx2 ?_ ?_ <;> (intro hp; clear hk a; intro a hk)) | (refine wx3 ?_; clear hk hS a; intro w b hS a hk) | (refine wx4 ?_; clear hk hS a; intro w hS a hk) | (refine wx5 ?_; clear hk hS a; intro w v hS a hk) | fail) | refine wx0 ?_ | (refine s_end hk ?_; clear hk a; intro a hk) | fail))
        refine wp_drawn 10 mixed (by kernel_rfl) hk hS ?_; clear hk hS a
        (repeat' (first | (show ObxE _ _ _ _ _ _ _ _ _ (_ :: _) _ _ _; first | refine ox1 ?_ | (refine ox2 ?_ ?_ <;> intro hp) | fail) | fail))
        refine obe_nil ⟨rfl, ?_⟩; intro us a w hk hS
        (repeat' (first | (show wpListIn _ _ _ _ _ (_ :: _) _ _; first | (refine wx1 ?_; clear hk a; intro a hk) | (refine wx2 ?_ ?_ <;> (intro hp; clear hk a; intro a hk)) | (refine wx3 ?_; clear hk hS a; intro w b hS a hk) | (refine wx4 ?_; clear hk hS a; intro w hS a hk) | (refine wx5 ?_; clear hk hS a; intro w v hS a hk) | fail) | refine wx0 ?_ | (refine s_end hk ?_; clear hk a; intro a hk) | fail))
        all_goals first | exact ⟨hil, (), hk.sd, hS.sb, trivial⟩ | exact absurd ((eqC_self _).symm.trans (by assumption)) (by decide)
      · have : i = sl.length := by omega
        subst this
        (repeat' (first | (show wpListIn _ _ _ _ _ (_ :: _) _ _; first | (refine wx1 ?_; clear hk a; intro a hk) | (refine wx2 ?_ ?_ <;> (intro hp; clear hk a; intro a hk)) | (refine wx3 ?_; clear hk hS a; intro w b hS a hk) | (refine wx4 ?_; clear hk hS a; intro w hS a hk) | (refine wx5 ?_; clear hk hS a; intro w v hS a hk) | fail) | refine wx0 ?_ | (refine s_end hk ?_; clear hk a; intro a hk) | fail))
        replace hk := Kn.kp [2, 3, 71, 72] hk
        refine wp_for H.length (fun i _ => [(72, .int .i64 (i : Int))]) (fun _ _ => [pts b2 [.int .i64 k, .string tag, .string key, .string text, .slice b1' cl.length n1, .slice b2' al.length n2, .slice b3' sl.length n3, .int .i64 e, .int .i64 lv, .int .i64 m, .int .i64 d, .bool p, .bool q, .slice b4' G.length n4] 42, pts b1 [.int .i64 k, .string tag, .string key, .string text, .slice a1 cl.length m1, .slice a2 al.length m2, .slice a3 sl.length m3, .int .i64 e, .int .i64 lv, .int .i64 m, .int .i64 d, .bool p, .bool q, .slice a4 H.length m4] 42]) (fun _ _ => True) () hk (by repeat (first | exact trivial | refine ⟨rfl, ?_⟩)) hS.sb trivial ?_
        clear hk hS a
        rintro i - a w hi hk hS -
        by_cases hil : i < H.length
        · obtain ⟨tk, htk⟩ : ∃ t, kids[i]? = some t := ⟨_, List.getElem?_eq_getElem (by omega)⟩
          obtain ⟨hd0, hx⟩ : ∃ x, H[i]? = some x := ⟨_, List.getElem?_eq_getElem hil⟩
          obtain ⟨gd0, hy⟩ : ∃ x, G[i]? = some x := ⟨_, List.getElem?_eq_getElem (by omega)⟩
          have hTr := hF.2 i tk hd0 htk hx
          have hTu := hG.2 i tk gd0 htk hy
          have hfk := l5 tk (List.mem_of_getElem? htk)
          have hlt : SizeOf.sizeOf tk < n := by have := kid_lt (k := k) (tag := tag) (key := key) (text := text) (cl := cl) (at_ := al) (st := sl) (o := (e, lv, m, d, p, q)) (List.mem_of_getElem? htk); omega
          obtain ⟨k0, tag0, key0, text0, ⟨x1, x2, x3⟩, ⟨y1, y2, y3⟩, ⟨z1, z2, z3⟩, ⟨e0, lv0, m0, d0, p0, q0⟩, ⟨u1, u2, u3⟩⟩ := hd0
          obtain ⟨k9, tag9, key9, text9, ⟨x19, x29, x39⟩, ⟨y19, y29, y39⟩, ⟨z19, z29, z39⟩, ⟨e9, lv9, m9, d9, p9, q9⟩, ⟨u19, u29, u39⟩⟩ := gd0
          have hcall := fun w0 h1 h2 => ih tk (k0, tag0, key0, text0, ⟨x1, x2, x3⟩, ⟨y1, y2, y3⟩, ⟨z1, z2, z3⟩, (e0, lv0, m0, d0, p0, q0), ⟨u1, u2, u3⟩) (k9, tag9, key9, text9, ⟨x19, x29, x39⟩, ⟨y19, y29, y39⟩, ⟨z19, z29, z39⟩, (e9, lv9, m9, d9, p9, q9), ⟨u19, u29, u39⟩) w0 hlt hfk h1 h2
          have hv1 := hS.rdT c4
          have hv2 := hS.rdT g4
          (repeat' (first | (show wpListIn _ _ _ _ _ (_ :: _) _ _; first | (refine wx1 ?_; clear hk a; intro a hk) | (refine wx2 ?_ ?_ <;> (intro hp; clear hk a; intro a hk)) | (refine wx3 ?_; clear hk hS a; intro w b hS a hk) | (refine wx4 ?_; clear hk hS a; intro w hS a hk) | (refine wx5 ?_; clear hk hS a; intro w v hS a hk) | fail) | refine wx0 ?_ | (refine s_end hk ?_; clear hk a; intro a hk) | fail))
          refine wp_drawn 12 mixed (by kernel_rfl) hk hS ?_; clear hk hS a
          (repeat' (first | (show ObxE _ _ _ _ _ _ _ _ _ (_ :: _) _ _ _; first | refine ox1 ?_ | (refine ox2 ?_ ?_ <;> intro hp) | fail) | fail))
          refine' obe_val (fun us a w hk hd hS => ?_) ?_; rotate_left; focus (have hk := Kn.vw hk (by repeat (first | exact VW.nil | apply VW.val rfl | apply VW.base rfl rfl | apply VW.res rfl | apply VW.upd rfl | apply VW.cpy rfl | apply VW.dep rfl | apply VW.fn rfl | apply VW.lnd rfl | apply VW.tak rfl)); exact g_callO hk (hf := by kernel_rfl) (hc := hcall _ (hS.rdTr hTr) (hS.rdTr hTu)) (h := fun _ _ h => h))
          (repeat' (first | (show ObxE _ _ _ _ _ _ _ _ _ (_ :: _) _ _ _; first | refine ox1 ?_ | (refine ox2 ?_ ?_ <;> intro hp) | fail) | fail))
          refine obe_nil ⟨rfl, ?_⟩; intro us a w hk hS
          (repeat' (first | (show wpListIn _ _ _ _ _ (_ :: _) _ _; first | (refine wx1 ?_; clear hk a; intro a hk) | (refine wx2 ?_ ?_ <;> (intro hp; clear hk a; intro a hk)) | (refine wx3 ?_; clear hk hS a; intro w b hS a hk) | (refine wx4 ?_; clear hk hS a; intro w hS a hk) | (refine wx5 ?_; clear hk hS a; intro w v hS a hk) | fail) | refine wx0 ?_ | (refine s_end hk ?_; clear hk a; intro a hk) | fail))
          exact ⟨hil, (), hk.sd, hS.sb, trivial⟩
        · have : i = H.length := by omega
          subst this
          (repeat' (first | (show wpListIn _ _ _ _ _ (_ :: _) _ _; first | (refine wx1 ?_; clear hk a; intro a hk) | (refine wx2 ?_ ?_ <;> (intro hp; clear hk a; intro a hk)) | (refine wx3 ?_; clear hk hS a; intro w b hS a hk) | (refine wx4 ?_; clear hk hS a; intro w hS a hk) | (refine wx5 ?_; clear hk hS a; intro w v hS a hk) | fail) | refine wx0 ?_ | (refine s_end hk ?_; clear hk a; intro a hk) | fail))
          have T1 : TrR w (.mk k tag key text cl al sl (e, lv, m, d, p, q) []) (k, tag, key, text, ⟨a1, cl.length, m1⟩, ⟨a2, al.length, m2⟩, ⟨a3, sl.length, m3⟩, (e, lv, m, d, p, q), ⟨none, 0, 0⟩) :=
            .mk (hS.rdT c1) (hS.rdT c2) (hS.rdT c3) (SlT.nil (α := NdH) w) rfl (fun i t h h1 h2 => by simp at h1)
          have T2 : TrR w (.mk k tag key text cl al sl (e, lv, m, d, p, q) []) (k, tag, key, text, ⟨b1', cl.length, n1⟩, ⟨b2', al.length, n2⟩, ⟨b3', sl.length, n3⟩, (e, lv, m, d, p, q), ⟨none, 0, 0⟩) :=
            .mk (hS.rdT g1) (hS.rdT g2) (hS.rdT g3) (SlT.nil (α := NdH) w) rfl (fun i t h h1 h2 => by simp at h1)
          have hsf := sameRW_any (SizeOf.sizeOf (Tree.mk k tag key text cl al sl (e, lv, m, d, p, q) []) + 1) _ _ _ _ w (by omega) (.mk l1 l2 l3 (by simp) (by simp)) (.mk l1 l2 l3 (by simp) (by simp)) T1 T2
          rw [sam_self] at hsf
          refine sg hk (g_callO hk (hf := by kernel_rfl) (hc := hsf) (h := ?_)); clear hk a; rintro _ w ⟨rfl, hS1⟩ a hk; replace hS := hS.call0 hS1; clear hS1
          (repeat' (first | (show wpListIn _ _ _ _ _ (_ :: _) _ _; first | (refine wx1 ?_; clear hk a; intro a hk) | (refine wx2 ?_ ?_ <;> (intro hp; clear hk a; intro a hk)) | (refine wx3 ?_; clear hk hS a; intro w b hS a hk) | (refine wx4 ?_; clear hk hS a; intro w hS a hk) | (refine wx5 ?_; clear hk hS a; intro w v hS a hk) | fail) | refine wx0 ?_ | (refine s_end hk ?_; clear hk a; intro a hk) | fail))
          exact done1 hk (h := ⟨rfl, hS.nil⟩)
end Go.Proofs.YtipdgobplfkipaaGreatDoor
