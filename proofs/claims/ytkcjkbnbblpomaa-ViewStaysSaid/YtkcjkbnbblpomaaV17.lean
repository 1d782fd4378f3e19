import Derived.Test.YtkcjkbnbblpomaaV16
namespace Go.Proofs.Ytkcjkbnbblpomaa
open Go.RowKit
set_option maxRecDepth 100000
attribute [local irreducible] Go.Code.wpIn Go.wpListIn Go.Calls Gives Go.Exit.then Go.Exit.inBlock Done ObxE

abbrev nodeV (k : Int) (tag key text : ByteArray) (a1 : Option Addr) (n1 m1 : Nat) (a2 : Option Addr) (n2 m2 : Nat) (a3 : Option Addr) (n3 m3 : Nat) (e lv m d : Int) (p q : Bool) (a4 : Option Addr) (n4 m4 : Nat) : Value :=
  .agg #[.int .i64 k, .string tag, .string key, .string text, .slice a1 n1 m1, .slice a2 n2 m2, .slice a3 n3 m3, .int .i64 e, .int .i64 lv, .int .i64 m, .int .i64 d, .bool p, .bool q, .slice a4 n4 m4]

set_option maxHeartbeats 8000000 in
theorem sameR_any : ∀ (n : Nat) (t u : Tree) (h g : NdH) (w0 : World), SizeOf.sizeOf t < n → Fits t → Fits u → TrR w0 t h → TrR w0 u g → Calls Try.prog 15 #[ndV h, ndV g] w0 (Ret fun v w => v = .bool (samT t u) ∧ St w0 [] w)
  | 0, _, _, _, _, _, hn, _, _, _, _ => by omega
  | n + 1, t, u, h, g, w0, hn, hf, hf', hr, hr' => by
    have ih := sameR_any n
    obtain ⟨k, tag, key, text, cl, al, sl, e, lv, m, d, p, q, kids, a1, m1, a2, m2, a3, m3, a4, m4, H, rfl, rfl, c1, c2, c3, c4, hF⟩ := hr.split
    obtain ⟨k', tag', key', text', cl', al', sl', e', lv', m', d', p', q', kids', b1', n1, b2', n2, b3', n3, b4', n4, G, rfl, rfl, g1, g2, g3, g4, hG⟩ := hr'.split
    obtain ⟨l1, l2, l3, l4, l5⟩ := hf
    obtain ⟨l1', l2', l3', l4', l5'⟩ := hf'
    have hHk : H.length = kids.length := hF.1
    have hGk : G.length = kids'.length := hG.1
    show Calls Try.prog 15 #[nodeV k tag key text a1 cl.length m1 a2 al.length m2 a3 sl.length m3 e lv m d p q a4 H.length m4, nodeV k' tag' key' text' b1' cl'.length n1 b2' al'.length n2 b3' sl'.length n3 e' lv' m' d' p' q' b4' G.length n4] w0 _
    have hiff := sam_iff (k := k) (k' := k') (tag := tag) (tag' := tag') (key := key) (key' := key') (text := text) (text' := text') (cl := cl) (cl' := cl') (al := al) (al' := al') (sl := sl) (sl' := sl') (o := (e, lv, m, d, p, q)) (o' := (e', lv', m', d', p', q')) (kids := kids) (kids' := kids')
    rw [samL_iff] at hiff
    refine enter Try.func15 rfl Try.ntmps15 rfl (fun a hk => ?_); have hS := St.refl w0
    refine wpIn_seq ?_; refine wpIn_region_lit ?_
    refine st_box hk hS ?_; clear hk hS a; intro w b1 hS a hk
    refine st_box hk hS ?_; clear hk hS a; intro w b2 hS a hk
    (repeat' (first | (show wpListIn _ _ _ _ _ (_ :: _) _ _; first | (refine wx1 ?_; clear hk a; intro a hk) | (refine wx2 ?_ ?_ <;> (intro hp; clear hk a; intro a hk)) | (refine wx3 ?_; clear hk hS a; intro w b hS a hk) | (refine wx4 ?_; clear hk hS a; intro w hS a hk) | (refine wx5 ?_; clear hk hS a; intro w v hS a hk) | fail) | refine wx0 ?_ | (refine s_end hk ?_; clear hk a; intro a hk) | fail))
    rotate_left
    all_goals try (
      refine done1 hk (h := ⟨congrArg Value.bool (sam_false fun hh => ?_).symm, hS.nil⟩)
      obtain ⟨⟨q1, q2, q3, q4, q5, q6, q7, q8⟩, q9, q10⟩ := hiff.1 hh
      first
        | exact absurd q1 (by assumption)
        | exact absurd q2 (by assumption)
        | exact absurd q3 (by assumption)
        | exact absurd q4 (by assumption)
        | (have := congrArg List.length q6; omega)
        | omega
        | (simp only [Prod.mk.injEq] at q5; obtain ⟨rfl, rfl, rfl, rfl, rfl, rfl⟩ := q5; exact absurd ((eqC_self _).symm.trans (by assumption)) (by decide)))
    have ho : ((e, lv, m, d, p, q) : Opt) = (e', lv', m', d', p', q') := by
      have := eqC_enc (α := Opt) (x := (e, lv, m, d, p, q)) (y := (e', lv', m', d', p', q')) (b := true) (by assumption)
      rwa [if_pos rfl] at this
    have hlc : cl.length = cl'.length := by omega
    have hlk : H.length = G.length := by omega
    have hb1 : k = k' := by assumption
    have hb2 : tag = tag' := by assumption
    have hb3 : key = key' := by assumption
    have hb4 : text = text' := by assumption
    replace hk := Kn.kp [2, 3, 66, 67] hk
    refine wp_for cl.length (fun i _ => [(67, .int .i64 (i : Int))]) (fun _ _ => [pts b2 [.int .i64 k', .string tag', .string key', .string text', .slice b1' cl'.length n1, .slice b2' al'.length n2, .slice b3' sl'.length n3, .int .i64 e', .int .i64 lv', .int .i64 m', .int .i64 d', .bool p', .bool q', .slice b4' G.length n4] 31, pts b1 [.int .i64 k, .string tag, .string key, .string text, .slice a1 cl.length m1, .slice a2 al.length m2, .slice a3 sl.length m3, .int .i64 e, .int .i64 lv, .int .i64 m, .int .i64 d, .bool p, .bool q, .slice a4 H.length m4] 31]) (fun i _ => ∀ j, j < i → cl[j]? = cl'[j]?) () hk (by repeat (first | exact trivial | refine ⟨rfl, ?_⟩)) hS.sb (fun j hj => by omega) ?_
    clear hk hS a
    rintro i - a w hi hk hS hEq
    by_cases hil : i < cl.length
    · obtain ⟨x, hx⟩ : ∃ x, cl[i]? = some x := ⟨_, List.getElem?_eq_getElem hil⟩
      obtain ⟨y, hy⟩ : ∃ y, cl'[i]? = some y := ⟨_, List.getElem?_eq_getElem (by omega)⟩
      have hv1 := hS.rdT c1
      have hv2 := hS.rdT g1
      (repeat' (first | (show wpListIn _ _ _ _ _ (_ :: _) _ _; first | (refine wx1 ?_; clear hk a; intro a hk) | (refine wx2 ?_ ?_ <;> (intro hp; clear hk a; intro a hk)) | (refine wx3 ?_; clear hk hS a; intro w b hS a hk) | (refine wx4 ?_; clear hk hS a; intro w hS a hk) | (refine wx5 ?_; clear hk hS a; intro w v hS a hk) | fail) | refine wx0 ?_ | (refine s_end hk ?_; clear hk a; intro a hk) | fail))
      refine wp_drawn 10 mixed (by kernel_rfl) hk hS ?_; clear hk hS a
      (repeat' (first | (show ObxE _ _ _ _ _ _ _ _ _ (_ :: _) _ _ _; first | refine ox1 ?_ | (refine ox2 ?_ ?_ <;> intro hp) | fail) | fail))
      all_goals (
        refine obe_nil ⟨rfl, ?_⟩; intro us a w hk hS
        (repeat' (first | (show wpListIn _ _ _ _ _ (_ :: _) _ _; first | (refine wx1 ?_; clear hk a; intro a hk) | (refine wx2 ?_ ?_ <;> (intro hp; clear hk a; intro a hk)) | (refine wx3 ?_; clear hk hS a; intro w b hS a hk) | (refine wx4 ?_; clear hk hS a; intro w hS a hk) | (refine wx5 ?_; clear hk hS a; intro w v hS a hk) | fail) | refine wx0 ?_ | (refine s_end hk ?_; clear hk a; intro a hk) | fail)))
      · have he : x = y := by assumption
        refine ⟨hil, (), hk.sd, hS.sb, fun j hj => ?_⟩
        by_cases e : j = i
        · subst e; rw [hx, hy, he]
        · exact hEq j (by omega)
      · have he : ¬ x = y := by assumption
        refine done1 hk (h := ⟨congrArg Value.bool (sam_false fun hh => ?_).symm, hS.nil⟩)
        obtain ⟨⟨q1, q2, q3, q4, q5, q6, q7, q8⟩, q9, q10⟩ := hiff.1 hh
        rw [q6, hy] at hx
        exact he (Option.some.inj hx).symm
    · have : i = cl.length := by omega
      subst this
      have hcl : cl = cl' := List.ext_getElem? fun j => by
        by_cases hj : j < cl.length
        · exact hEq j hj
        · rw [List.getElem?_eq_none (by omega), List.getElem?_eq_none (by omega)]
      (repeat' (first | (show wpListIn _ _ _ _ _ (_ :: _) _ _; first | (refine wx1 ?_; clear hk a; intro a hk) | (refine wx2 ?_ ?_ <;> (intro hp; clear hk a; intro a hk)) | (refine wx3 ?_; clear hk hS a; intro w b hS a hk) | (refine wx4 ?_; clear hk hS a; intro w hS a hk) | (refine wx5 ?_; clear hk hS a; intro w v hS a hk) | fail) | refine wx0 ?_ | (refine s_end hk ?_; clear hk a; intro a hk) | fail))
      refine wp_drawn 6 mixed (by kernel_rfl) hk hS ?_; clear hk hS a
      (repeat' (first | (show ObxE _ _ _ _ _ _ _ _ _ (_ :: _) _ _ _; first | refine ox1 ?_ | (refine ox2 ?_ ?_ <;> intro hp) | fail) | fail))
      refine' obe_res (fun us a w hk hd hS => ?_) ?_; rotate_left; focus (have hk := Kn.vw hk (by repeat (first | exact VW.nil | apply VW.val rfl | apply VW.base rfl rfl | apply VW.res rfl | apply VW.upd rfl | apply VW.cpy rfl | apply VW.dep rfl | apply VW.fn rfl | apply VW.lnd rfl | apply VW.tak rfl)); exact g_callO hk (hf := by kernel_rfl) (hc := attrs07_any al _ _ (hS.rdT c2) (by omega)) (h := fun _ _ h => h))
      (repeat' (first | (show ObxE _ _ _ _ _ _ _ _ _ (_ :: _) _ _ _; first | refine ox1 ?_ | (refine ox2 ?_ ?_ <;> intro hp) | fail) | fail))
      refine' obe_res (fun us a w hk hd hS => ?_) ?_; rotate_left; focus (have hk := Kn.vw hk (by repeat (first | exact VW.nil | apply VW.val rfl | apply VW.base rfl rfl | apply VW.res rfl | apply VW.upd rfl | apply VW.cpy rfl | apply VW.dep rfl | apply VW.fn rfl | apply VW.lnd rfl | apply VW.tak rfl)); exact g_callO hk (hf := by kernel_rfl) (hc := attrs07_any al' _ _ (hS.rdT g2) (by omega)) (h := fun _ _ h => h))
      refine obe_nil ⟨rfl, ?_⟩; intro us a w hk hS
      simp only [resE, List.cons_append, List.nil_append, Nat.zero_add, Nat.reduceAdd] at hS
      replace hk := Kn.kp [2, 3, 84, 87] hk
      simp only [HV.of, Nat.zero_add, Nat.reduceAdd] at hk
      generalize us 2 = va at hS hk
      generalize us 5 = vb at hS hk
      clear us
      (repeat' (first | (show wpListIn _ _ _ _ _ (_ :: _) _ _; first | (refine wx1 ?_; clear hk a; intro a hk) | (refine wx2 ?_ ?_ <;> (intro hp; clear hk a; intro a hk)) | (refine wx3 ?_; clear hk hS a; intro w b hS a hk) | (refine wx4 ?_; clear hk hS a; intro w hS a hk) | (refine wx5 ?_; clear hk hS a; intro w v hS a hk) | fail) | refine wx0 ?_ | (refine s_end hk ?_; clear hk a; intro a hk) | fail))
      refine wp_drawn 6 mixed (by kernel_rfl) hk hS ?_; clear hk hS a
      (repeat' (first | (show ObxE _ _ _ _ _ _ _ _ _ (_ :: _) _ _ _; first | refine ox1 ?_ | (refine ox2 ?_ ?_ <;> intro hp) | fail) | fail))
      refine' obe_res (fun us a w hk hd hS => ?_) ?_; rotate_left; focus (have hk := Kn.vw hk (by repeat (first | exact VW.nil | apply VW.val rfl | apply VW.base rfl rfl | apply VW.res rfl | apply VW.upd rfl | apply VW.cpy rfl | apply VW.dep rfl | apply VW.fn rfl | apply VW.lnd rfl | apply VW.tak rfl)); exact g_callO hk (hf := by kernel_rfl) (hc := refOf_any sl _ _ (hS.rdT c3) (by omega)) (h := fun _ _ h => h))
      (repeat' (first | (show ObxE _ _ _ _ _ _ _ _ _ (_ :: _) _ _ _; first | refine ox1 ?_ | (refine ox2 ?_ ?_ <;> intro hp) | fail) | fail))
      refine' obe_res (fun us a w hk hd hS => ?_) ?_; rotate_left; focus (have hk := Kn.vw hk (by repeat (first | exact VW.nil | apply VW.val rfl | apply VW.base rfl rfl | apply VW.res rfl | apply VW.upd rfl | apply VW.cpy rfl | apply VW.dep rfl | apply VW.fn rfl | apply VW.lnd rfl | apply VW.tak rfl)); exact g_callO hk (hf := by kernel_rfl) (hc := refOf_any sl' _ _ (hS.rdT g3) (by omega)) (h := fun _ _ h => h))
      refine obe_nil ⟨rfl, ?_⟩; intro us a w hk hS
      simp only [resE, List.cons_append, List.nil_append, Nat.zero_add, Nat.reduceAdd] at hS
      replace hk := Kn.kp [2, 3, 6, 7, 90, 93] hk
      simp only [HV.of, Nat.zero_add, Nat.reduceAdd] at hk
      generalize us 2 = vc at hS hk
      generalize us 5 = vd at hS hk
      clear us
      have hs1 := snap_len nmS al
      have hs2 := snap_len nmS al'
      have hs3 := snap_len nmI sl
      have hs4 := snap_len nmI sl'
      generalize snapF nmS al = S1 at *
      generalize snapF nmS al' = S2 at *
      generalize snapF nmI sl = I1 at *
      generalize snapF nmI sl' = I2 at *
      (repeat' (first | (show wpListIn _ _ _ _ _ (_ :: _) _ _; first | (refine wx1 ?_; clear hk a; intro a hk) | (refine wx2 ?_ ?_ <;> (intro hp; clear hk a; intro a hk)) | (refine wx3 ?_; clear hk hS a; intro w b hS a hk) | (refine wx4 ?_; clear hk hS a; intro w hS a hk) | (refine wx5 ?_; clear hk hS a; intro w v hS a hk) | fail) | refine wx0 ?_ | (refine s_end hk ?_; clear hk a; intro a hk) | fail))
      rotate_left
      · refine done1 hk (h := ⟨congrArg Value.bool (sam_false fun hh => ?_).symm, hS.nil⟩)
        obtain ⟨⟨q1, q2, q3, q4, q5, q6, q7, q8⟩, q9, q10⟩ := hiff.1 hh
        have := congrArg List.length q8
        omega
      · refine done1 hk (h := ⟨congrArg Value.bool (sam_false fun hh => ?_).symm, hS.nil⟩)
        obtain ⟨⟨q1, q2, q3, q4, q5, q6, q7, q8⟩, q9, q10⟩ := hiff.1 hh
        have := congrArg List.length q7
        omega
      replace hk := Kn.kp [2, 3, 6, 7, 8, 9, 107, 108] hk
      refine wp_for S1.length (fun i _ => [(108, .int .i64 (i : Int))]) (fun _ _ => [OwT 66 S1 va, OwT 66 S2 vb, OwT 71 I1 vc, OwT 71 I2 vd, pts b2 [.int .i64 k', .string tag', .string key', .string text', .slice b1' cl'.length n1, .slice b2' al'.length n2, .slice b3' sl'.length n3, .int .i64 e', .int .i64 lv', .int .i64 m', .int .i64 d', .bool p', .bool q', .slice b4' G.length n4] 31, pts b1 [.int .i64 k, .string tag, .string key, .string text, .slice a1 cl.length m1, .slice a2 al.length m2, .slice a3 sl.length m3, .int .i64 e, .int .i64 lv, .int .i64 m, .int .i64 d, .bool p, .bool q, .slice a4 H.length m4] 31]) (fun i _ => ∀ j, j < i → S1[j]? = S2[j]?) () hk (by repeat (first | exact trivial | refine ⟨rfl, ?_⟩)) hS.sb (fun j hj => by omega) ?_
      clear hk hS a
      rintro i - a w hi hk hS hEq1
      by_cases hil : i < S1.length
      · obtain ⟨⟨nm, val⟩, hx⟩ : ∃ x, S1[i]? = some x := ⟨_, List.getElem?_eq_getElem hil⟩
        obtain ⟨⟨nm', val'⟩, hy⟩ : ∃ y, S2[i]? = some y := ⟨_, List.getElem?_eq_getElem (by omega)⟩
        (repeat' (first | (show wpListIn _ _ _ _ _ (_ :: _) _ _; first | (refine wx1 ?_; clear hk a; intro a hk) | (refine wx2 ?_ ?_ <;> (intro hp; clear hk a; intro a hk)) | (refine wx3 ?_; clear hk hS a; intro w b hS a hk) | (refine wx4 ?_; clear hk hS a; intro w hS a hk) | (refine wx5 ?_; clear hk hS a; intro w v hS a hk) | fail) | refine wx0 ?_ | (refine s_end hk ?_; clear hk a; intro a hk) | fail))
        refine wp_drawn 8 mixed (by kernel_rfl) hk hS ?_; clear hk hS a
        (repeat' (first | (show ObxE _ _ _ _ _ _ _ _ _ (_ :: _) _ _ _; first | refine ox1 ?_ | (refine ox2 ?_ ?_ <;> intro hp) | fail) | fail))
        all_goals (
          refine obe_nil ⟨rfl, ?_⟩; intro us a w hk hS
          (repeat' (first | (show wpListIn _ _ _ _ _ (_ :: _) _ _; first | (refine wx1 ?_; clear hk a; intro a hk) | (refine wx2 ?_ ?_ <;> (intro hp; clear hk a; intro a hk)) | (refine wx3 ?_; clear hk hS a; intro w b hS a hk) | (refine wx4 ?_; clear hk hS a; intro w hS a hk) | (refine wx5 ?_; clear hk hS a; intro w v hS a hk) | fail) | refine wx0 ?_ | (refine s_end hk ?_; clear hk a; intro a hk) | fail)))
        · have he : (nm, val) = (nm', val') := by
            have := eqC_enc (α := PrS) (x := (nm, val)) (y := (nm', val')) (b := true) (by assumption)
            rwa [if_pos rfl] at this
          refine ⟨hil, (), hk.sd, hS.sb, fun j hj => ?_⟩
          by_cases e : j = i
          · subst e; rw [hx, hy, he]
          · exact hEq1 j (by omega)
        · have he : ¬ (nm, val) = (nm', val') := by
            have := eqC_enc (α := PrS) (x := (nm, val)) (y := (nm', val')) (b := false) (by assumption)
            rwa [if_neg (by decide)] at this
          refine done1 hk (h := ⟨congrArg Value.bool (sam_false fun hh => ?_).symm, hS.nil⟩)
          obtain ⟨⟨q1, q2, q3, q4, q5, q6, q7, q8⟩, q9, q10⟩ := hiff.1 hh
          rw [q7, hy] at hx
          exact he (Option.some.inj hx).symm
      · have : i = S1.length := by omega
        subst this
        have hcS : S1 = S2 := List.ext_getElem? fun j => by
            by_cases hj : j < S1.length
            · exact hEq1 j hj
            · rw [List.getElem?_eq_none (by omega), List.getElem?_eq_none (by omega)]
        (repeat' (first | (show wpListIn _ _ _ _ _ (_ :: _) _ _; first | (refine wx1 ?_; clear hk a; intro a hk) | (refine wx2 ?_ ?_ <;> (intro hp; clear hk a; intro a hk)) | (refine wx3 ?_; clear hk hS a; intro w b hS a hk) | (refine wx4 ?_; clear hk hS a; intro w hS a hk) | (refine wx5 ?_; clear hk hS a; intro w v hS a hk) | fail) | refine wx0 ?_ | (refine s_end hk ?_; clear hk a; intro a hk) | fail))
        replace hk := Kn.kp [2, 3, 8, 9, 122, 123] hk
        refine wp_for I1.length (fun i _ => [(123, .int .i64 (i : Int))]) (fun _ _ => [OwT 66 S1 va, OwT 66 S2 vb, OwT 71 I1 vc, OwT 71 I2 vd, pts b2 [.int .i64 k', .string tag', .string key', .string text', .slice b1' cl'.length n1, .slice b2' al'.length n2, .slice b3' sl'.length n3, .int .i64 e', .int .i64 lv', .int .i64 m', .int .i64 d', .bool p', .bool q', .slice b4' G.length n4] 31, pts b1 [.int .i64 k, .string tag, .string key, .string text, .slice a1 cl.length m1, .slice a2 al.length m2, .slice a3 sl.length m3, .int .i64 e, .int .i64 lv, .int .i64 m, .int .i64 d, .bool p, .bool q, .slice a4 H.length m4] 31]) (fun i _ => ∀ j, j < i → I1[j]? = I2[j]?) () hk (by repeat (first | exact trivial | refine ⟨rfl, ?_⟩)) hS.sb (fun j hj => by omega) ?_
        clear hk hS a
        rintro i - a w hi hk hS hEq2
        by_cases hil : i < I1.length
        · obtain ⟨⟨nm, val⟩, hx⟩ : ∃ x, I1[i]? = some x := ⟨_, List.getElem?_eq_getElem hil⟩
          obtain ⟨⟨nm', val'⟩, hy⟩ : ∃ y, I2[i]? = some y := ⟨_, List.getElem?_eq_getElem (by omega)⟩
          (repeat' (first | (show wpListIn _ _ _ _ _ (_ :: _) _ _; first | (refine wx1 ?_; clear hk a; intro a hk) | (refine wx2 ?_ ?_ <;> (intro hp; clear hk a; intro a hk)) | (refine wx3 ?_; clear hk hS a; intro w b hS a hk) | (refine wx4 ?_; clear hk hS a; intro w hS a hk) | (refine wx5 ?_; clear hk hS a; intro w v hS a hk) | fail) | refine wx0 ?_ | (refine s_end hk ?_; clear hk a; intro a hk) | fail))
          refine wp_drawn 8 mixed (by kernel_rfl) hk hS ?_; clear hk hS a
          (repeat' (first | (show ObxE _ _ _ _ _ _ _ _ _ (_ :: _) _ _ _; first | refine ox1 ?_ | (refine ox2 ?_ ?_ <;> intro hp) | fail) | fail))
          all_goals (
            refine obe_nil ⟨rfl, ?_⟩; intro us a w hk hS
            (repeat' (first | (show wpListIn _ _ _ _ _ (_ :: _) _ _; first | (refine wx1 ?_; clear hk a; intro a hk) | (refine wx2 ?_ ?_ <;> (intro hp; clear hk a; intro a hk)) | (refine wx3 ?_; clear hk hS a; intro w b hS a hk) | (refine wx4 ?_; clear hk hS a; intro w hS a hk) | (refine wx5 ?_; clear hk hS a; intro w v hS a hk) | fail) | refine wx0 ?_ | (refine s_end hk ?_; clear hk a; intro a hk) | fail)))
          · have he : (nm, val) = (nm', val') := by
              have := eqC_enc (α := PrI) (x := (nm, val)) (y := (nm', val')) (b := true) (by assumption)
              rwa [if_pos rfl] at this
            refine ⟨hil, (), hk.sd, hS.sb, fun j hj => ?_⟩
            by_cases e : j = i
            · subst e; rw [hx, hy, he]
            · exact hEq2 j (by omega)
          · have he : ¬ (nm, val) = (nm', val') := by
              have := eqC_enc (α := PrI) (x := (nm, val)) (y := (nm', val')) (b := false) (by assumption)
              rwa [if_neg (by decide)] at this
            refine done1 hk (h := ⟨congrArg Value.bool (sam_false fun hh => ?_).symm, hS.nil⟩)
            obtain ⟨⟨q1, q2, q3, q4, q5, q6, q7, q8⟩, q9, q10⟩ := hiff.1 hh
            rw [q8, hy] at hx
            exact he (Option.some.inj hx).symm
        · have : i = I1.length := by omega
          subst this
          have hcI : I1 = I2 := List.ext_getElem? fun j => by
            by_cases hj : j < I1.length
            · exact hEq2 j hj
            · rw [List.getElem?_eq_none (by omega), List.getElem?_eq_none (by omega)]
          (repeat' (first | (show wpListIn _ _ _ _ _ (_ :: _) _ _; first | (refine wx1 ?_; clear hk a; intro a hk) | (refine wx2 ?_ ?_ <;> (intro hp; clear hk a; intro a hk)) | (refine wx3 ?_; clear hk hS a; intro w b hS a hk) | (refine wx4 ?_; clear hk hS a; intro w hS a hk) | (refine wx5 ?_; clear hk hS a; intro w v hS a hk) | fail) | refine wx0 ?_ | (refine s_end hk ?_; clear hk a; intro a hk) | fail))
          replace hk := Kn.kp [2, 3, 138, 139] hk
          refine wp_for H.length (fun i _ => [(139, .int .i64 (i : Int))]) (fun _ _ => [pts b2 [.int .i64 k', .string tag', .string key', .string text', .slice b1' cl'.length n1, .slice b2' al'.length n2, .slice b3' sl'.length n3, .int .i64 e', .int .i64 lv', .int .i64 m', .int .i64 d', .bool p', .bool q', .slice b4' G.length n4] 31, pts b1 [.int .i64 k, .string tag, .string key, .string text, .slice a1 cl.length m1, .slice a2 al.length m2, .slice a3 sl.length m3, .int .i64 e, .int .i64 lv, .int .i64 m, .int .i64 d, .bool p, .bool q, .slice a4 H.length m4] 31]) (fun i _ => ∀ (j : Nat) (t u : Tree), j < i → kids[j]? = some t → kids'[j]? = some u → samT t u = true) () hk (by repeat (first | exact trivial | refine ⟨rfl, ?_⟩)) hS.sb (fun j t u hj => by omega) ?_
          clear hk hS a
          rintro i - a w hi hk hS hEq3
          by_cases hil : i < H.length
          · obtain ⟨tk, htk⟩ : ∃ t, kids[i]? = some t := ⟨_, List.getElem?_eq_getElem (by omega)⟩
            obtain ⟨uk, huk⟩ : ∃ t, kids'[i]? = some t := ⟨_, List.getElem?_eq_getElem (by omega)⟩
            obtain ⟨hd0, hx⟩ : ∃ x, H[i]? = some x := ⟨_, List.getElem?_eq_getElem hil⟩
            obtain ⟨gd0, hy⟩ : ∃ x, G[i]? = some x := ⟨_, List.getElem?_eq_getElem (by omega)⟩
            have hTr := hF.2 i tk hd0 htk hx
            have hTu := hG.2 i uk gd0 huk hy
            have hfk := l5 tk (List.mem_of_getElem? htk)
            have hfu := l5' uk (List.mem_of_getElem? huk)
            have hlt : SizeOf.sizeOf tk < n := by have := kid_lt (k := k) (tag := tag) (key := key) (text := text) (cl := cl) (at_ := al) (st := sl) (o := (e, lv, m, d, p, q)) (List.mem_of_getElem? htk); omega
            obtain ⟨k0, tag0, key0, text0, ⟨x1, x2, x3⟩, ⟨y1, y2, y3⟩, ⟨z1, z2, z3⟩, ⟨e0, lv0, m0, d0, p0, q0⟩, ⟨u1, u2, u3⟩⟩ := hd0
            obtain ⟨k9, tag9, key9, text9, ⟨x19, x29, x39⟩, ⟨y19, y29, y39⟩, ⟨z19, z29, z39⟩, ⟨e9, lv9, m9, d9, p9, q9⟩, ⟨u19, u29, u39⟩⟩ := gd0
            have hcall := fun w0 h1 h2 => ih tk uk (k0, tag0, key0, text0, ⟨x1, x2, x3⟩, ⟨y1, y2, y3⟩, ⟨z1, z2, z3⟩, (e0, lv0, m0, d0, p0, q0), ⟨u1, u2, u3⟩) (k9, tag9, key9, text9, ⟨x19, x29, x39⟩, ⟨y19, y29, y39⟩, ⟨z19, z29, z39⟩, (e9, lv9, m9, d9, p9, q9), ⟨u19, u29, u39⟩) w0 hlt hfk hfu h1 h2
            have hv1 := hS.rdT c4
            have hv2 := hS.rdT g4
            cases hs : samT tk uk with
            | true =>
              rw [hs] at hcall
              (repeat' (first | (show wpListIn _ _ _ _ _ (_ :: _) _ _; first | (refine wx1 ?_; clear hk a; intro a hk) | (refine wx2 ?_ ?_ <;> (intro hp; clear hk a; intro a hk)) | (refine wx3 ?_; clear hk hS a; intro w b hS a hk) | (refine wx4 ?_; clear hk hS a; intro w hS a hk) | (refine wx5 ?_; clear hk hS a; intro w v hS a hk) | fail) | refine wx0 ?_ | (refine s_end hk ?_; clear hk a; intro a hk) | fail))
              refine wp_drawn 12 mixed (by kernel_rfl) hk hS ?_; clear hk hS a
              (repeat' (first | (show ObxE _ _ _ _ _ _ _ _ _ (_ :: _) _ _ _; first | refine ox1 ?_ | (refine ox2 ?_ ?_ <;> intro hp) | fail) | fail))
              refine' obe_val (fun us a w hk hd hS => ?_) ?_; rotate_left; focus (have hk := Kn.vw hk (by repeat (first | exact VW.nil | apply VW.val rfl | apply VW.base rfl rfl | apply VW.res rfl | apply VW.upd rfl | apply VW.cpy rfl | apply VW.dep rfl | apply VW.fn rfl | apply VW.lnd rfl | apply VW.tak rfl)); exact g_callO hk (hf := by kernel_rfl) (hc := hcall _ (hS.rdTr hTr) (hS.rdTr hTu)) (h := fun _ _ h => h))
              (repeat' (first | (show ObxE _ _ _ _ _ _ _ _ _ (_ :: _) _ _ _; first | refine ox1 ?_ | (refine ox2 ?_ ?_ <;> intro hp) | fail) | fail))
              refine obe_nil ⟨rfl, ?_⟩; intro us a w hk hS
              (repeat' (first | (show wpListIn _ _ _ _ _ (_ :: _) _ _; first | (refine wx1 ?_; clear hk a; intro a hk) | (refine wx2 ?_ ?_ <;> (intro hp; clear hk a; intro a hk)) | (refine wx3 ?_; clear hk hS a; intro w b hS a hk) | (refine wx4 ?_; clear hk hS a; intro w hS a hk) | (refine wx5 ?_; clear hk hS a; intro w v hS a hk) | fail) | refine wx0 ?_ | (refine s_end hk ?_; clear hk a; intro a hk) | fail))
              refine ⟨hil, (), hk.sd, hS.sb, fun j t u hj ht hu => ?_⟩
              by_cases e : j = i
              · subst e
                rw [htk] at ht
                rw [huk] at hu
                cases ht
                cases hu
                exact hs
              · exact hEq3 j t u (by omega) ht hu
            | false =>
              rw [hs] at hcall
              (repeat' (first | (show wpListIn _ _ _ _ _ (_ :: _) _ _; first | (refine wx1 ?_; clear hk a; intro a hk) | (refine wx2 ?_ ?_ <;> (intro hp; clear hk a; intro a hk)) | (refine wx3 ?_; clear hk hS a; intro w b hS a hk) | (refine wx4 ?_; clear hk hS a; intro w hS a hk) | (refine wx5 ?_; clear hk hS a; intro w v hS a hk) | fail) | refine wx0 ?_ | (refine s_end hk ?_; clear hk a; intro a hk) | fail))
              refine wp_drawn 12 mixed (by kernel_rfl) hk hS ?_; clear hk hS a
              (repeat' (first | (show ObxE _ _ _ _ _ _ _ _ _ (_ :: _) _ _ _; first | refine ox1 ?_ | (refine ox2 ?_ ?_ <;> intro hp) | fail) | fail))
              refine' obe_val (fun us a w hk hd hS => ?_) ?_; rotate_left; focus (have hk := Kn.vw hk (by repeat (first | exact VW.nil | apply VW.val rfl | apply VW.base rfl rfl | apply VW.res rfl | apply VW.upd rfl | apply VW.cpy rfl | apply VW.dep rfl | apply VW.fn rfl | apply VW.lnd rfl | apply VW.tak rfl)); exact g_callO hk (hf := by kernel_rfl) (hc := hcall _ (hS.rdTr hTr) (hS.rdTr hTu)) (h := fun _ _ h => h))
              (repeat' (first | (show ObxE _ _ _ _ _ _ _ _ _ (_ :: _) _ _ _; first | refine ox1 ?_ | (refine ox2 ?_ ?_ <;> intro hp) | fail) | fail))
              refine obe_nil ⟨rfl, ?_⟩; intro us a w hk hS
              (repeat' (first | (show wpListIn _ _ _ _ _ (_ :: _) _ _; first | (refine wx1 ?_; clear hk a; intro a hk) | (refine wx2 ?_ ?_ <;> (intro hp; clear hk a; intro a hk)) | (refine wx3 ?_; clear hk hS a; intro w b hS a hk) | (refine wx4 ?_; clear hk hS a; intro w hS a hk) | (refine wx5 ?_; clear hk hS a; intro w v hS a hk) | fail) | refine wx0 ?_ | (refine s_end hk ?_; clear hk a; intro a hk) | fail))
              refine done1 hk (h := ⟨congrArg Value.bool (sam_false fun hh => ?_).symm, hS.nil⟩)
              obtain ⟨⟨q1, q2, q3, q4, q5, q6, q7, q8⟩, q9, q10⟩ := hiff.1 hh
              have := q10 i tk uk htk huk
              rw [hs] at this
              cases this
          · have : i = H.length := by omega
            subst this
            (repeat' (first | (show wpListIn _ _ _ _ _ (_ :: _) _ _; first | (refine wx1 ?_; clear hk a; intro a hk) | (refine wx2 ?_ ?_ <;> (intro hp; clear hk a; intro a hk)) | (refine wx3 ?_; clear hk hS a; intro w b hS a hk) | (refine wx4 ?_; clear hk hS a; intro w hS a hk) | (refine wx5 ?_; clear hk hS a; intro w v hS a hk) | fail) | refine wx0 ?_ | (refine s_end hk ?_; clear hk a; intro a hk) | fail))
            exact done1 hk (h := ⟨congrArg Value.bool (hiff.2 ⟨⟨hb1, hb2, hb3, hb4, ho, hcl, hcS, hcI⟩, by omega, fun j t u ht hu => hEq3 j t u (by have := lt_of_get ht; omega) ht hu⟩).symm, hS.nil⟩)
end Go.Proofs.Ytkcjkbnbblpomaa
