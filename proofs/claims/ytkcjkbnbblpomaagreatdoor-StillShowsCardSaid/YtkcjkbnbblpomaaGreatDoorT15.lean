/- Layer 7: views as the program's own; views of flat nodes. Layer 7: nodes told flat, each with how deep it stands. -/
import Derived.Test.YtkcjkbnbblpomaaGreatDoorT14
set_option linter.all false
namespace Go.Proofs.YtkcjkbnbblpomaaGreatDoor
open Go.RowKit
set_option maxRecDepth 100000
attribute [local irreducible] Go.Code.wpIn Go.wpListIn Go.Calls Gives Go.Exit.then Go.Exit.inBlock Done ObxE

set_option maxHeartbeats 4000000 in
theorem own07_any : ∀ (n : Nat) (t : Tree) (h : NdH) (w0 : World), SizeOf.sizeOf t < n → Fits t → TrR w0 t h → Calls Tryz.prog 12 #[ndV h] w0 (Ret fun v w => St w0 [treeH t v] w)
  | 0, _, _, _, hn, _, _ => by omega
  | n + 1, t, h, w0, hn, hf, hr => by
    have ih := own07_any n
    obtain ⟨k, tag, key, text, cl, al, sl, e, lv, m, d, p, q, kids, a1, m1, a2, m2, a3, m3, a4, m4, H, rfl, rfl, c1, c2, c3, c4, hF⟩ := hr.split
    obtain ⟨l1, l2, l3, l4, l5⟩ := hf
    show Calls Tryz.prog 12 #[.agg #[.int .i64 k, .string tag, .string key, .string text, .slice a1 cl.length m1, .slice a2 al.length m2, .slice a3 sl.length m3, .int .i64 e, .int .i64 lv, .int .i64 m, .int .i64 d, .bool p, .bool q, .slice a4 H.length m4]] w0 _
    refine enter Tryz.func12 rfl Tryz.ntmps12 rfl (fun a hk => ?_); have hS := St.refl w0
    (repeat' (first | (show wpListIn _ _ _ _ _ (_ :: _) _ _; first | (refine wx1 ?_; clear hk a; intro a hk) | (refine wx2 ?_ ?_ <;> (intro hp; clear hk a; intro a hk)) | (refine wx3 ?_; clear hk hS a; intro w b hS a hk) | (refine wx4 ?_; clear hk hS a; intro w hS a hk) | (refine wx5 ?_; clear hk hS a; intro w v hS a hk) | fail) | refine wx0 ?_ | (refine s_end hk ?_; clear hk a; intro a hk) | fail))
    rename_i b1
    rename Nat => b2
    refine wp_drawn 19 mixed (by kernel_rfl) hk hS ?_; clear hk hS a
    (repeat' (first | (show ObxE _ _ _ _ _ _ _ _ _ (_ :: _) _ _ _; first | refine ox1 ?_ | (refine ox2 ?_ ?_ <;> intro hp) | fail) | fail))
    refine' obe_res (fun us a w hk hd hS => ?_) ?_; rotate_left; focus (have hk := Kn.vw hk (by repeat (first | exact VW.nil | apply VW.val rfl | apply VW.base rfl rfl | apply VW.res rfl | apply VW.upd rfl | apply VW.cpy rfl | apply VW.dep rfl | apply VW.fn rfl | apply VW.lnd rfl | apply VW.tak rfl)); exact v_bs0 (hT := eT rfl) (hE := zT rfl))
    (repeat' (first | (show ObxE _ _ _ _ _ _ _ _ _ (_ :: _) _ _ _; first | refine ox1 ?_ | (refine ox2 ?_ ?_ <;> intro hp) | fail) | fail))
    refine' obe_res (fun us a w hk hd hS => ?_) ?_; rotate_left; focus (have hk := Kn.vw hk (by repeat (first | exact VW.nil | apply VW.val rfl | apply VW.base rfl rfl | apply VW.res rfl | apply VW.upd rfl | apply VW.cpy rfl | apply VW.dep rfl | apply VW.fn rfl | apply VW.lnd rfl | apply VW.tak rfl)); exact v_appR (ys := cl) hk hd.1 (hT := eT rfl) (hTx := eT rfl) (hE := zT rfl) (hz := oT rfl) (hzs := rfl) (hs := hS.rdT c1) (hby := bT rfl) (hbytes := by omega) (h63 := by simp only [maxLen]; omega))
    (repeat' (first | (show ObxE _ _ _ _ _ _ _ _ _ (_ :: _) _ _ _; first | refine ox1 ?_ | (refine ox2 ?_ ?_ <;> intro hp) | fail) | fail))
    refine' obe_res (fun us a w hk hd hS => ?_) ?_; rotate_left; focus (have hk := Kn.vw hk (by repeat (first | exact VW.nil | apply VW.val rfl | apply VW.base rfl rfl | apply VW.res rfl | apply VW.upd rfl | apply VW.cpy rfl | apply VW.dep rfl | apply VW.fn rfl | apply VW.lnd rfl | apply VW.tak rfl)); exact g_callO hk (hf := by kernel_rfl) (hc := own04_any sl _ _ (hS.rdT c3) (by omega)) (h := fun _ _ h => h))
    (repeat' (first | (show ObxE _ _ _ _ _ _ _ _ _ (_ :: _) _ _ _; first | refine ox1 ?_ | (refine ox2 ?_ ?_ <;> intro hp) | fail) | fail))
    refine' obe_fn [11, 14] (fun l => .agg #[.int .i64 k, .string tag, .string key, .string text, l.getD 0 undef, .slice none 0 0, l.getD 1 undef, .int .i64 e, .int .i64 lv, .int .i64 m, .int .i64 d, .bool p, .bool q, .slice none 0 0]) (fun us a w hk hd hS => ?_) ?_ (by intro k e; simp only [List.mem_cons, List.not_mem_nil, or_false] at e; rcases e with rfl | rfl; exact ⟨19, _, rfl, rfl⟩; exact ⟨22, _, rfl, rfl⟩)
    · have hk := Kn.vw hk (by repeat (first | exact VW.nil | apply VW.val rfl | apply VW.base rfl rfl | apply VW.res rfl | apply VW.upd rfl | apply VW.cpy rfl | apply VW.dep rfl | apply VW.fn rfl | apply VW.lnd rfl | apply VW.tak rfl))
      have h1 : (appH 9 cl (us 11)).rd w := hd.2.2.2.2.1
      have h2 : (OwT 103 sl (us 14)).rd w := hd.2.2.2.2.2.1
      obtain ⟨_, _, e1, _⟩ := (appH.rd h1).shape
      obtain ⟨_, _, e2, _⟩ := (OwT.rd h2).shape
      simp only [Nat.zero_add, Nat.reduceAdd] at hk
      simp only [List.map, List.getD_cons_zero, List.getD_cons_succ]
      rw [e1, e2] at hk ⊢
      exact g_build hk ⟨rfl, St.refl w⟩ (fsT rfl) (oT rfl)
    refine' obe_res (fun us a w hk hd hS => ?_) ?_; rotate_left; focus (have hk := Kn.vw hk (by repeat (first | exact VW.nil | apply VW.val rfl | apply VW.base rfl rfl | apply VW.res rfl | apply VW.upd rfl | apply VW.cpy rfl | apply VW.dep rfl | apply VW.fn rfl | apply VW.lnd rfl | apply VW.tak rfl)); exact v_alloc hk (oT rfl))
    refine obe_nil ⟨rfl, ?_⟩; intro us a w hk hS
    simp only [resE, List.cons_append, List.nil_append, Nat.zero_add, Nat.reduceAdd] at hS
    obtain ⟨b3, hb3, hS1⟩ := hS.ptv (by (repeat (first | exact At.here | apply At.there))); replace hS := hS1; clear hS1
    replace hk := Kn.kp [1, 2, 3, 25] hk
    simp only [HV.of, List.map, List.getD_cons_zero, List.getD_cons_succ, Nat.zero_add, Nat.reduceAdd] at hk
    generalize us 11 = v19 at hS hk
    generalize us 14 = v22 at hS hk
    generalize us 8 = v16 at hS
    rw [hb3] at hk
    obtain ⟨a19, m19, rfl, _⟩ := (appH.rd (hS.rd (A := appH 9 cl v19) (by (repeat (first | exact At.here | apply At.there))))).shape
    obtain ⟨aov22, cv22, hshp, _⟩ := (OwT.rd (hS.rd (A := OwT 103 _ v22) (by (repeat (first | exact At.here | apply At.there))))).shape; subst hshp
    (repeat' (first | (show wpListIn _ _ _ _ _ (_ :: _) _ _; first | (refine wx1 ?_; clear hk a; intro a hk) | (refine wx2 ?_ ?_ <;> (intro hp; clear hk a; intro a hk)) | (refine wx3 ?_; clear hk hS a; intro w b hS a hk) | (refine wx4 ?_; clear hk hS a; intro w hS a hk) | (refine wx5 ?_; clear hk hS a; intro w v hS a hk) | fail) | refine wx0 ?_ | (refine s_end hk ?_; clear hk a; intro a hk) | fail))
    replace hS := hS.nilT 98 PrS
    replace hk := Kn.kp [1, 2, 3, 27, 28, 29] hk
    refine wp_for al.length (fun i _ => [(29, .int .i64 (i : Int))]) (fun i v => [OwT 98 (al.take i) (.slice v.1 i v.2), pts b3 [.int .i64 k, .string tag, .string key, .string text, .slice a19 cl.length m19, .slice v.1 i v.2, .slice aov22 sl.length cv22, .int .i64 e, .int .i64 lv, .int .i64 m, .int .i64 d, .bool p, .bool q, .slice none 0 0] 44, OwT 103 sl (.slice aov22 sl.length cv22), appH 9 cl (.slice a19 cl.length m19), pts b2 [.int .i64 0, .string ⟨#[]⟩, .string ⟨#[]⟩, .string ⟨#[]⟩, .slice none 0 0, .slice none 0 0, .slice none 0 0, .int .i64 0, .int .i64 0, .int .i64 0, .int .i64 0, .bool false, .bool false, .slice none 0 0] 44, pts b1 [.int .i64 k, .string tag, .string key, .string text, .slice a1 cl.length m1, .slice a2 al.length m2, .slice a3 sl.length m3, .int .i64 e, .int .i64 lv, .int .i64 m, .int .i64 d, .bool p, .bool q, .slice a4 H.length m4] 31]) (fun _ _ => True) ((none, 0) : Option Addr × Nat) hk (by repeat (first | exact trivial | refine ⟨rfl, ?_⟩)) hS.sb trivial ?_
    clear hk hS a
    rintro i ⟨ao, c⟩ a w hi hk hS -
    by_cases hil : i < al.length
    · obtain ⟨⟨nm, val⟩, hx⟩ : ∃ x, al[i]? = some x := ⟨_, List.getElem?_eq_getElem hil⟩
      have hst : al.take (i + 1) = al.take i ++ [(nm, val)] := take_snoc hx
      have htl : (al.take i).length = i := by rw [List.length_take]; omega
      have hv1 := hS.rdT c2
      simp only at hS hk
      (repeat' (first | (show wpListIn _ _ _ _ _ (_ :: _) _ _; first | (refine wx1 ?_; clear hk a; intro a hk) | (refine wx2 ?_ ?_ <;> (intro hp; clear hk a; intro a hk)) | (refine wx3 ?_; clear hk hS a; intro w b hS a hk) | (refine wx4 ?_; clear hk hS a; intro w hS a hk) | (refine wx5 ?_; clear hk hS a; intro w v hS a hk) | fail) | refine wx0 ?_ | (refine s_end hk ?_; clear hk a; intro a hk) | fail))
      have htl1 : (al.take (i + 1)).length = i + 1 := by rw [List.length_take]; omega
      refine sg hk (g_bsT (xs := [((nm, val) : ByteArray × ByteArray)]) (m := 0) hk hS ?_ (hT := eT rfl) (hE := zT rfl) (hz := oT rfl)); clear hk hS a; intro w ve hS a hk
      (repeat' (first | (show wpListIn _ _ _ _ _ (_ :: _) _ _; first | (refine wx1 ?_; clear hk a; intro a hk) | (refine wx2 ?_ ?_ <;> (intro hp; clear hk a; intro a hk)) | (refine wx3 ?_; clear hk hS a; intro w b hS a hk) | (refine wx4 ?_; clear hk hS a; intro w hS a hk) | (refine wx5 ?_; clear hk hS a; intro w v hS a hk) | fail) | refine wx0 ?_ | (refine s_end hk ?_; clear hk a; intro a hk) | fail))
      rw [← hst] at hS
      rename Value => vn
      obtain ⟨aovn, cvn, hshp, _⟩ := (OwT.rd (hS.rd (A := OwT 98 _ vn) (by (repeat (first | exact At.here | apply At.there))))).shape; subst hshp
      rw [htl1] at hS hk
      (repeat' (first | (show wpListIn _ _ _ _ _ (_ :: _) _ _; first | (refine wx1 ?_; clear hk a; intro a hk) | (refine wx2 ?_ ?_ <;> (intro hp; clear hk a; intro a hk)) | (refine wx3 ?_; clear hk hS a; intro w b hS a hk) | (refine wx4 ?_; clear hk hS a; intro w hS a hk) | (refine wx5 ?_; clear hk hS a; intro w v hS a hk) | fail) | refine wx0 ?_ | (refine s_end hk ?_; clear hk a; intro a hk) | fail))
      exact ⟨hil, (aovn, cvn), hk.sd, hS.sb, trivial⟩
    · have : i = al.length := by omega
      subst this
      rw [List.take_length] at hS
      simp only at hS hk
      have c4' := hS.rdT c4
      have hF' := hS.rdFo hF
      (repeat' (first | (show wpListIn _ _ _ _ _ (_ :: _) _ _; first | (refine wx1 ?_; clear hk a; intro a hk) | (refine wx2 ?_ ?_ <;> (intro hp; clear hk a; intro a hk)) | (refine wx3 ?_; clear hk hS a; intro w b hS a hk) | (refine wx4 ?_; clear hk hS a; intro w hS a hk) | (refine wx5 ?_; clear hk hS a; intro w v hS a hk) | fail) | refine wx0 ?_ | (refine s_end hk ?_; clear hk a; intro a hk) | fail))
      replace hS := forR.nil (hS.nilT 44 NdH)
      replace hk := Kn.kp [2, 3, 41, 42, 43] hk
      refine wp_for H.length (fun i _ => [(43, .int .i64 (i : Int))]) (fun i v => [forR (kids.take i) (v.2 : List NdH), OwT 44 v.2 (.slice v.1.1 i v.1.2), pts b3 [.int .i64 k, .string tag, .string key, .string text, .slice a19 cl.length m19, .slice ao al.length c, .slice aov22 sl.length cv22, .int .i64 e, .int .i64 lv, .int .i64 m, .int .i64 d, .bool p, .bool q, .slice v.1.1 i v.1.2] 44, OwT 98 al (.slice ao al.length c), OwT 103 sl (.slice aov22 sl.length cv22), appH 9 cl (.slice a19 cl.length m19), pts b2 [.int .i64 0, .string ⟨#[]⟩, .string ⟨#[]⟩, .string ⟨#[]⟩, .slice none 0 0, .slice none 0 0, .slice none 0 0, .int .i64 0, .int .i64 0, .int .i64 0, .int .i64 0, .bool false, .bool false, .slice none 0 0] 44]) (fun _ _ => True) (((none, 0), []) : (Option Addr × Nat) × List NdH) hk (by repeat (first | exact trivial | refine ⟨rfl, ?_⟩)) hS.sb trivial ?_
      clear hk hS a
      rintro j ⟨⟨ak, ck⟩, H'⟩ a w hj hk hS -
      have hFH := hS.foR .here
      have hkl : (kids.take j).length = j := by rw [List.length_take, ← hF.1]; omega
      have hHl : H'.length = j := by rw [hFH.1, hkl]
      by_cases hjl : j < H.length
      · obtain ⟨tk, htk⟩ : ∃ t, kids[j]? = some t := ⟨_, List.getElem?_eq_getElem (by rw [← hF.1]; exact hjl)⟩
        obtain ⟨hd0, hx⟩ : ∃ x, H[j]? = some x := ⟨_, List.getElem?_eq_getElem hjl⟩
        have hTr := hF.2 j tk hd0 htk hx
        have hfk := l5 tk (List.mem_of_getElem? htk)
        have hlt : SizeOf.sizeOf tk < n := by have := kid_lt (k := k) (tag := tag) (key := key) (text := text) (cl := cl) (at_ := al) (st := sl) (o := (e, lv, m, d, p, q)) (List.mem_of_getElem? htk); omega
        have hst : kids.take (j + 1) = kids.take j ++ [tk] := take_snoc htk
        have c4'' := hS.rdT c4
        simp only at hS hk
        obtain ⟨k', tag', key', text', ⟨x1, x2, x3⟩, ⟨y1, y2, y3⟩, ⟨z1, z2, z3⟩, ⟨e', lv', m', d', p', q'⟩, ⟨u1, u2, u3⟩⟩ := hd0
        (repeat' (first | (show wpListIn _ _ _ _ _ (_ :: _) _ _; first | (refine wx1 ?_; clear hk a; intro a hk) | (refine wx2 ?_ ?_ <;> (intro hp; clear hk a; intro a hk)) | (refine wx3 ?_; clear hk hS a; intro w b hS a hk) | (refine wx4 ?_; clear hk hS a; intro w hS a hk) | (refine wx5 ?_; clear hk hS a; intro w v hS a hk) | fail) | refine wx0 ?_ | (refine s_end hk ?_; clear hk a; intro a hk) | fail))
        refine wp_drawn 5 mixed (by kernel_rfl) hk hS ?_; clear hk hS a
        (repeat' (first | (show ObxE _ _ _ _ _ _ _ _ _ (_ :: _) _ _ _; first | refine ox1 ?_ | (refine ox2 ?_ ?_ <;> intro hp) | fail) | fail))
        refine' obe_res (fun us a w hk hd hS => ?_) ?_; rotate_left; focus (have hk := Kn.vw hk (by repeat (first | exact VW.nil | apply VW.val rfl | apply VW.base rfl rfl | apply VW.res rfl | apply VW.upd rfl | apply VW.cpy rfl | apply VW.dep rfl | apply VW.fn rfl | apply VW.lnd rfl | apply VW.tak rfl)); exact g_callO hk (hf := by kernel_rfl) (hc := ih tk (k', tag', key', text', ⟨x1, x2, x3⟩, ⟨y1, y2, y3⟩, ⟨z1, z2, z3⟩, (e', lv', m', d', p', q'), ⟨u1, u2, u3⟩) _ hlt hfk (hS.rdTr hTr)) (h := fun _ _ h => h))
        refine' obe_dep 50 3 (V := fun u v => OwT 44 [ndOf u] v) (fun us a w hk hd hS => ?_) ?_
        · have hk := Kn.vw hk (by repeat (first | exact VW.nil | apply VW.val rfl | apply VW.base rfl rfl | apply VW.res rfl | apply VW.upd rfl | apply VW.cpy rfl | apply VW.dep rfl | apply VW.fn rfl | apply VW.lnd rfl | apply VW.tak rfl))
          have hG : (treeH tk (us 3)).rd w := hd.1
          obtain ⟨⟨k2, tag2, key2, text2, ⟨x12, x22, x32⟩, ⟨y12, y22, y32⟩, ⟨z12, z22, z32⟩, ⟨e2, lv2, m2, d2, p2, q2⟩, ⟨u12, u22, u32⟩⟩, he, _⟩ := treeH.rd hG
          show Gives _ _ _ _ (fun v w' => St w [OwT 44 [ndOf (us 3)] v] w')
          simp only [Nat.zero_add, Nat.reduceAdd] at hk
          rw [he] at hk ⊢
          rw [ndOf_ndV]
          exact v_bsT (xs := [((k2, tag2, key2, text2, ⟨x12, x22, x32⟩, ⟨y12, y22, y32⟩, ⟨z12, z22, z32⟩, (e2, lv2, m2, d2, p2, q2), ⟨u12, u22, u32⟩) : NdH)]) (m := 0) hk (hT := eT rfl) (hE := zT rfl) (hz := oT rfl)
        refine obe_nil ⟨rfl, ?_⟩; intro us a w hk hS
        simp only [resE, List.cons_append, List.nil_append, Nat.zero_add, Nat.reduceAdd] at hS
        replace hk := Kn.kp [2, 3, 41, 42, 43, 48, 50, 51] hk
        simp only [HV.of, Nat.zero_add, Nat.reduceAdd] at hk
        generalize us 3 = v50 at hS hk
        generalize us 4 = v51 at hS hk
        obtain ⟨hd1, rfl, hS1⟩ := St.tree hS (.there .here)
        clear hS
        have hS := hS1
        clear hS1
        rw [ndOf_ndV] at hS
        have hHk : H.length = kids.length := hF.1
        (repeat' (first | (show wpListIn _ _ _ _ _ (_ :: _) _ _; first | (refine wx1 ?_; clear hk a; intro a hk) | (refine wx2 ?_ ?_ <;> (intro hp; clear hk a; intro a hk)) | (refine wx3 ?_; clear hk hS a; intro w b hS a hk) | (refine wx4 ?_; clear hk hS a; intro w hS a hk) | (refine wx5 ?_; clear hk hS a; intro w v hS a hk) | fail) | refine wx0 ?_ | (refine s_end hk ?_; clear hk a; intro a hk) | fail))
        have hl1 : (H' ++ [hd1]).length = j + 1 := by rw [List.length_append, hHl]; rfl
        rename Value => vn
        obtain ⟨aovn, cvn, hshp, _⟩ := (OwT.rd (hS.rd (A := OwT 44 _ vn) (by (repeat (first | exact At.here | apply At.there))))).shape; subst hshp
        rw [hl1] at hS hk
        (repeat' (first | (show wpListIn _ _ _ _ _ (_ :: _) _ _; first | (refine wx1 ?_; clear hk a; intro a hk) | (refine wx2 ?_ ?_ <;> (intro hp; clear hk a; intro a hk)) | (refine wx3 ?_; clear hk hS a; intro w b hS a hk) | (refine wx4 ?_; clear hk hS a; intro w hS a hk) | (refine wx5 ?_; clear hk hS a; intro w v hS a hk) | fail) | refine wx0 ?_ | (refine s_end hk ?_; clear hk a; intro a hk) | fail))
        have hS1 := forR.snoc (L := [OwT 44 (H' ++ [hd1]) (.slice aovn (j + 1) cvn), pts b3 [.int .i64 k, .string tag, .string key, .string text, .slice a19 cl.length m19, .slice ao al.length c, .slice aov22 sl.length cv22, .int .i64 e, .int .i64 lv, .int .i64 m, .int .i64 d, .bool p, .bool q, .slice aovn (j + 1) cvn] 44, OwT 98 al (.slice ao al.length c), OwT 103 sl (.slice aov22 sl.length cv22), appH 9 cl (.slice a19 cl.length m19), pts b2 [.int .i64 0, .string ⟨#[]⟩, .string ⟨#[]⟩, .string ⟨#[]⟩, .slice none 0 0, .slice none 0 0, .slice none 0 0, .int .i64 0, .int .i64 0, .int .i64 0, .int .i64 0, .bool false, .bool false, .slice none 0 0] 44]) (ts := kids.take j) (H := H') (t := tk) (h := hd1) (hS.sub (by (repeat (first | exact Sub.nil | exact Sub.refl | refine Sub.cons (by (repeat (first | exact At.here | apply At.there))) ?_))))
        rw [← hst] at hS1
        exact ⟨hjl, ((aovn, cvn), H' ++ [hd1]), hk.sd, hS1, trivial⟩
      · have hjj : j = kids.length := by have := hF.1; omega
        subst hjj
        rw [List.take_length] at hS
        simp only at hS hk
        (repeat' (first | (show wpListIn _ _ _ _ _ (_ :: _) _ _; first | (refine wx1 ?_; clear hk a; intro a hk) | (refine wx2 ?_ ?_ <;> (intro hp; clear hk a; intro a hk)) | (refine wx3 ?_; clear hk hS a; intro w b hS a hk) | (refine wx4 ?_; clear hk hS a; intro w hS a hk) | (refine wx5 ?_; clear hk hS a; intro w v hS a hk) | fail) | refine wx0 ?_ | (refine s_end hk ?_; clear hk a; intro a hk) | fail))
        refine done1R hk rfl (.str hS (hT := aT rfl) (hs := zT rfl)) (h := ?_)
        exact treeH.of (h := (k, tag, key, text, ⟨a19, cl.length, m19⟩, ⟨ao, al.length, c⟩, ⟨aov22, sl.length, cv22⟩, (e, lv, m, d, p, q), ⟨ak, kids.length, ck⟩)) (treeR.of (A1 := appH 9 cl (.slice a19 cl.length m19)) (A2 := OwT 98 al (.slice ao al.length c)) (A3 := OwT 103 sl (.slice aov22 sl.length cv22)) (A4 := OwT 44 H' (.slice ak kids.length ck)) (hS.sub (by (repeat (first | exact Sub.nil | exact Sub.refl | refine Sub.cons (by (repeat (first | exact At.here | apply At.there))) ?_)))))
end Go.Proofs.YtkcjkbnbblpomaaGreatDoor
namespace Go.Proofs.YtkcjkbnbblpomaaGreatDoor
open Go.RowKit
set_option maxRecDepth 100000
attribute [local irreducible] Go.Code.wpIn Go.wpListIn Go.Calls Gives Go.Exit.then Go.Exit.inBlock Done ObxE

abbrev FlH := Int × Int × ByteArray × ByteArray × ByteArray × Hd × Hd × Hd × Opt
abbrev flV (h : FlH) : Value := .agg (Enc.f h).toArray
def fewA (l : List (ByteArray × ByteArray)) (n : Nat) : List (ByteArray × ByteArray) := (l.take n).map (fun p => (cutF p.1 20, cutF p.2 40))
theorem fewA_len (l : List (ByteArray × ByteArray)) (n : Nat) : (fewA l n).length = min n l.length := by simp [fewA]
theorem fewA_snoc {l : List (ByteArray × ByteArray)} {i : Nat} {x : ByteArray × ByteArray} (h : l[i]? = some x) : fewA l (i + 1) = fewA l i ++ [(cutF x.1 20, cutF x.2 40)] := by simp [fewA, take_snoc h]
theorem cutF_len (s : ByteArray) (n : Nat) : (cutF s n).size ≤ n := by
  unfold cutF
  split
  · simp; omega
  · omega

def nodeF (k : Int) (tag key text : ByteArray) (cl : List ByteArray) (al : List (ByteArray × ByteArray)) (sl : List (ByteArray × Int)) (o : Opt) : Tree :=
  .mk k (cutF tag 20) (cutF key 20) (cutF text 70) (few03 cl 4) (fewA al 4) (few04 sl 4) o []

set_option maxHeartbeats 4000000 in
theorem node07_any (dp k : Int) (tag key text : ByteArray) (cl : List ByteArray) (al : List (ByteArray × ByteArray)) (sl : List (ByteArray × Int)) (e lv m d : Int) (p q : Bool) (a1 a2 a3 : Option Addr) (m1 m2 m3 : Nat) (w0 : World)
    (c1 : SlT cl (.slice a1 cl.length m1) w0) (c2 : SlT al (.slice a2 al.length m2) w0) (c3 : SlT sl (.slice a3 sl.length m3) w0) :
    Calls Tryz.prog 37 #[.agg #[.int .i64 dp, .int .i64 k, .string tag, .string key, .string text, .slice a1 cl.length m1, .slice a2 al.length m2, .slice a3 sl.length m3, .int .i64 e, .int .i64 lv, .int .i64 m, .int .i64 d, .bool p, .bool q]] w0
      (Ret fun v w => St w0 [treeH (nodeF k tag key text cl al sl (e, lv, m, d, p, q)) v] w) := by
  have ll := few03_len cl 4
  have hs4 := few04_len sl 4
  have hm2 : al.length ≤ maxLen := c2.len_le
  simp only [maxLen] at hm2
  refine enter Tryz.func37 rfl Tryz.ntmps37 rfl (fun a hk => ?_); have hS := St.refl w0
  (repeat' (first | (show wpListIn _ _ _ _ _ (_ :: _) _ _; first | (refine wx1 ?_; clear hk a; intro a hk) | (refine wx2 ?_ ?_ <;> (intro hp; clear hk a; intro a hk)) | (refine wx3 ?_; clear hk hS a; intro w b hS a hk) | (refine wx4 ?_; clear hk hS a; intro w hS a hk) | (refine wx5 ?_; clear hk hS a; intro w v hS a hk) | fail) | refine wx0 ?_ | (refine s_end hk ?_; clear hk a; intro a hk) | fail))
  rename_i b1
  rename Nat => b2
  refine wp_drawn 21 mixed (by kernel_rfl) hk hS ?_; clear hk hS a
  (repeat' (first | (show ObxE _ _ _ _ _ _ _ _ _ (_ :: _) _ _ _; first | refine ox1 ?_ | (refine ox2 ?_ ?_ <;> intro hp) | fail) | fail))
  refine' obe_val (fun us a w hk hd hS => ?_) ?_; rotate_left; focus (have hk := Kn.vw hk (by repeat (first | exact VW.nil | apply VW.val rfl | apply VW.base rfl rfl | apply VW.res rfl | apply VW.upd rfl | apply VW.cpy rfl | apply VW.dep rfl | apply VW.fn rfl | apply VW.lnd rfl | apply VW.tak rfl)); exact g_callO hk (hf := by kernel_rfl) (hc := cut_any _ 20 _) (h := fun _ _ h => h))
  (repeat' (first | (show ObxE _ _ _ _ _ _ _ _ _ (_ :: _) _ _ _; first | refine ox1 ?_ | (refine ox2 ?_ ?_ <;> intro hp) | fail) | fail))
  refine' obe_val (fun us a w hk hd hS => ?_) ?_; rotate_left; focus (have hk := Kn.vw hk (by repeat (first | exact VW.nil | apply VW.val rfl | apply VW.base rfl rfl | apply VW.res rfl | apply VW.upd rfl | apply VW.cpy rfl | apply VW.dep rfl | apply VW.fn rfl | apply VW.lnd rfl | apply VW.tak rfl)); exact g_callO hk (hf := by kernel_rfl) (hc := cut_any _ 20 _) (h := fun _ _ h => h))
  (repeat' (first | (show ObxE _ _ _ _ _ _ _ _ _ (_ :: _) _ _ _; first | refine ox1 ?_ | (refine ox2 ?_ ?_ <;> intro hp) | fail) | fail))
  refine' obe_val (fun us a w hk hd hS => ?_) ?_; rotate_left; focus (have hk := Kn.vw hk (by repeat (first | exact VW.nil | apply VW.val rfl | apply VW.base rfl rfl | apply VW.res rfl | apply VW.upd rfl | apply VW.cpy rfl | apply VW.dep rfl | apply VW.fn rfl | apply VW.lnd rfl | apply VW.tak rfl)); exact g_callO hk (hf := by kernel_rfl) (hc := cut_any _ 70 _) (h := fun _ _ h => h))
  (repeat' (first | (show ObxE _ _ _ _ _ _ _ _ _ (_ :: _) _ _ _; first | refine ox1 ?_ | (refine ox2 ?_ ?_ <;> intro hp) | fail) | fail))
  refine' obe_res (fun us a w hk hd hS => ?_) ?_; rotate_left; focus (have hk := Kn.vw hk (by repeat (first | exact VW.nil | apply VW.val rfl | apply VW.base rfl rfl | apply VW.res rfl | apply VW.upd rfl | apply VW.cpy rfl | apply VW.dep rfl | apply VW.fn rfl | apply VW.lnd rfl | apply VW.tak rfl)); exact g_callO hk (hf := by kernel_rfl) (hc := few03_any cl 4 (by omega) _ _ (hS.rdT c1)) (h := fun _ _ h => h))
  (repeat' (first | (show ObxE _ _ _ _ _ _ _ _ _ (_ :: _) _ _ _; first | refine ox1 ?_ | (refine ox2 ?_ ?_ <;> intro hp) | fail) | fail))
  refine' obe_res (fun us a w hk hd hS => ?_) ?_; rotate_left; focus (have hk := Kn.vw hk (by repeat (first | exact VW.nil | apply VW.val rfl | apply VW.base rfl rfl | apply VW.res rfl | apply VW.upd rfl | apply VW.cpy rfl | apply VW.dep rfl | apply VW.fn rfl | apply VW.lnd rfl | apply VW.tak rfl)); exact g_callO hk (hf := by kernel_rfl) (hc := few04_any sl 4 (by omega) _ _ (hS.rdT c3)) (h := fun _ _ h => h))
  (repeat' (first | (show ObxE _ _ _ _ _ _ _ _ _ (_ :: _) _ _ _; first | refine ox1 ?_ | (refine ox2 ?_ ?_ <;> intro hp) | fail) | fail))
  refine' obe_fn [13, 16] (fun l => .agg #[.int .i64 k, .string (cutF tag 20), .string (cutF key 20), .string (cutF text 70), l.getD 0 undef, .slice none 0 0, l.getD 1 undef, .int .i64 e, .int .i64 lv, .int .i64 m, .int .i64 d, .bool p, .bool q, .slice none 0 0]) (fun us a w hk hd hS => ?_) ?_ (by intro k e; simp only [List.mem_cons, List.not_mem_nil, or_false] at e; rcases e with rfl | rfl; exact ⟨18, _, rfl, rfl⟩; exact ⟨21, _, rfl, rfl⟩)
  · have hk := Kn.vw hk (by repeat (first | exact VW.nil | apply VW.val rfl | apply VW.base rfl rfl | apply VW.res rfl | apply VW.upd rfl | apply VW.cpy rfl | apply VW.dep rfl | apply VW.fn rfl | apply VW.lnd rfl | apply VW.tak rfl))
    have h1 : (OwT 9 (few03 cl 4) (us 13)).rd w := hd.2.2.2.2.1
    have h2 : (OwT 105 (few04 sl 4) (us 16)).rd w := hd.2.2.2.2.2.1
    obtain ⟨_, _, e1, _⟩ := (OwT.rd h1).shape
    obtain ⟨_, _, e2, _⟩ := (OwT.rd h2).shape
    simp only [Nat.zero_add, Nat.reduceAdd] at hk
    simp only [List.map, List.getD_cons_zero, List.getD_cons_succ]
    rw [e1, e2] at hk ⊢
    exact g_build hk ⟨rfl, St.refl w⟩ (fsT rfl) (oT rfl)
  refine' obe_res (fun us a w hk hd hS => ?_) ?_; rotate_left; focus (have hk := Kn.vw hk (by repeat (first | exact VW.nil | apply VW.val rfl | apply VW.base rfl rfl | apply VW.res rfl | apply VW.upd rfl | apply VW.cpy rfl | apply VW.dep rfl | apply VW.fn rfl | apply VW.lnd rfl | apply VW.tak rfl)); exact v_alloc hk (oT rfl))
  refine obe_nil ⟨rfl, ?_⟩; intro us a w hk hS
  simp only [resE, List.cons_append, List.nil_append, Nat.zero_add, Nat.reduceAdd] at hS
  obtain ⟨b3, hb3, hS1⟩ := hS.ptv (by (repeat (first | exact At.here | apply At.there))); replace hS := hS1; clear hS1
  replace hk := Kn.kp [1, 2, 3, 24] hk
  simp only [HV.of, List.map, List.getD_cons_zero, List.getD_cons_succ, Nat.zero_add, Nat.reduceAdd] at hk
  generalize us 13 = v18 at hS hk
  generalize us 16 = v21 at hS hk
  rw [hb3] at hk
  obtain ⟨aov18, cv18, hshp, _⟩ := (OwT.rd (hS.rd (A := OwT 9 _ v18) (by (repeat (first | exact At.here | apply At.there))))).shape; subst hshp
  obtain ⟨aov21, cv21, hshp, _⟩ := (OwT.rd (hS.rd (A := OwT 105 _ v21) (by (repeat (first | exact At.here | apply At.there))))).shape; subst hshp
  (repeat' (first | (show wpListIn _ _ _ _ _ (_ :: _) _ _; first | (refine wx1 ?_; clear hk a; intro a hk) | (refine wx2 ?_ ?_ <;> (intro hp; clear hk a; intro a hk)) | (refine wx3 ?_; clear hk hS a; intro w b hS a hk) | (refine wx4 ?_; clear hk hS a; intro w hS a hk) | (refine wx5 ?_; clear hk hS a; intro w v hS a hk) | fail) | refine wx0 ?_ | (refine s_end hk ?_; clear hk a; intro a hk) | fail))
  replace hS := hS.nilT 97 PrS
  replace hk := Kn.kp [1, 2, 3, 4] hk
  refine wp_for 4 (fun i _ => [(4, .int .i64 (i : Int))]) (fun i v => [OwT 97 (fewA al i) (.slice v.1 i v.2), pts b3 [.int .i64 k, .string (cutF tag 20), .string (cutF key 20), .string (cutF text 70), .slice aov18 (few03 cl 4).length cv18, .slice v.1 i v.2, .slice aov21 (few04 sl 4).length cv21, .int .i64 e, .int .i64 lv, .int .i64 m, .int .i64 d, .bool p, .bool q, .slice none 0 0] 31, OwT 105 (few04 sl 4) (.slice aov21 (few04 sl 4).length cv21), OwT 9 (few03 cl 4) (.slice aov18 (few03 cl 4).length cv18), pts b2 [.int .i64 0, .string ⟨#[]⟩, .string ⟨#[]⟩, .string ⟨#[]⟩, .slice none 0 0, .slice none 0 0, .slice none 0 0, .int .i64 0, .int .i64 0, .int .i64 0, .int .i64 0, .bool false, .bool false, .slice none 0 0] 31, pts b1 [.int .i64 dp, .int .i64 k, .string tag, .string key, .string text, .slice a1 cl.length m1, .slice a2 al.length m2, .slice a3 sl.length m3, .int .i64 e, .int .i64 lv, .int .i64 m, .int .i64 d, .bool p, .bool q] 91]) (fun i _ => i ≤ al.length) ((none, 0) : Option Addr × Nat) hk (by repeat (first | exact trivial | refine ⟨rfl, ?_⟩)) hS.sb (by omega) ?_
  clear hk hS a
  rintro i ⟨ao, c⟩ a w hi hk hS hF
  have hlen := fewA_len al i
  have hv1 := hS.rdT c2
  simp only at hS hk
  by_cases hll : i < al.length
  · by_cases hlt : i < 4
    · obtain ⟨⟨nm, val⟩, hx⟩ : ∃ x, al[i]? = some x := ⟨_, List.getElem?_eq_getElem hll⟩
      have hst := fewA_snoc hx
      have hl1 : (fewA al (i + 1)).length = i + 1 := by rw [fewA_len]; omega
      (repeat' (first | (show wpListIn _ _ _ _ _ (_ :: _) _ _; first | (refine wx1 ?_; clear hk a; intro a hk) | (refine wx2 ?_ ?_ <;> (intro hp; clear hk a; intro a hk)) | (refine wx3 ?_; clear hk hS a; intro w b hS a hk) | (refine wx4 ?_; clear hk hS a; intro w hS a hk) | (refine wx5 ?_; clear hk hS a; intro w v hS a hk) | fail) | refine wx0 ?_ | (refine s_end hk ?_; clear hk a; intro a hk) | fail))
      refine wp_drawn 18 mixed (by kernel_rfl) hk hS ?_; clear hk hS a
      (repeat' (first | (show ObxE _ _ _ _ _ _ _ _ _ (_ :: _) _ _ _; first | refine ox1 ?_ | (refine ox2 ?_ ?_ <;> intro hp) | fail) | fail))
      refine' obe_val (fun us a w hk hd hS => ?_) ?_; rotate_left; focus (have hk := Kn.vw hk (by repeat (first | exact VW.nil | apply VW.val rfl | apply VW.base rfl rfl | apply VW.res rfl | apply VW.upd rfl | apply VW.cpy rfl | apply VW.dep rfl | apply VW.fn rfl | apply VW.lnd rfl | apply VW.tak rfl)); exact g_callO hk (hf := by kernel_rfl) (hc := cut_any _ 20 _) (h := fun _ _ h => h))
      (repeat' (first | (show ObxE _ _ _ _ _ _ _ _ _ (_ :: _) _ _ _; first | refine ox1 ?_ | (refine ox2 ?_ ?_ <;> intro hp) | fail) | fail))
      refine' obe_val (fun us a w hk hd hS => ?_) ?_; rotate_left; focus (have hk := Kn.vw hk (by repeat (first | exact VW.nil | apply VW.val rfl | apply VW.base rfl rfl | apply VW.res rfl | apply VW.upd rfl | apply VW.cpy rfl | apply VW.dep rfl | apply VW.fn rfl | apply VW.lnd rfl | apply VW.tak rfl)); exact g_callO hk (hf := by kernel_rfl) (hc := cut_any _ 40 _) (h := fun _ _ h => h))
      (repeat' (first | (show ObxE _ _ _ _ _ _ _ _ _ (_ :: _) _ _ _; first | refine ox1 ?_ | (refine ox2 ?_ ?_ <;> intro hp) | fail) | fail))
      refine' obe_res (fun us a w hk hd hS => ?_) ?_; rotate_left; focus (have hk := Kn.vw hk (by repeat (first | exact VW.nil | apply VW.val rfl | apply VW.base rfl rfl | apply VW.res rfl | apply VW.upd rfl | apply VW.cpy rfl | apply VW.dep rfl | apply VW.fn rfl | apply VW.lnd rfl | apply VW.tak rfl)); exact v_bsT (xs := [((cutF nm 20, cutF val 40) : PrS)]) (m := 0) hk (hT := eT rfl) (hE := zT rfl) (hz := oT rfl))
      refine obe_nil ⟨rfl, ?_⟩; intro us a w hk hS
      simp only [resE] at hS
      (repeat' (first | (show wpListIn _ _ _ _ _ (_ :: _) _ _; first | (refine wx1 ?_; clear hk a; intro a hk) | (refine wx2 ?_ ?_ <;> (intro hp; clear hk a; intro a hk)) | (refine wx3 ?_; clear hk hS a; intro w b hS a hk) | (refine wx4 ?_; clear hk hS a; intro w hS a hk) | (refine wx5 ?_; clear hk hS a; intro w v hS a hk) | fail) | refine wx0 ?_ | (refine s_end hk ?_; clear hk a; intro a hk) | fail))
      rw [← hst] at hS
      rename Value => vn
      obtain ⟨aovn, cvn, hshp, _⟩ := (OwT.rd (hS.rd (A := OwT 97 _ vn) (by (repeat (first | exact At.here | apply At.there))))).shape; subst hshp
      rw [hl1] at hS hk
      replace hk := Kn.kp [1, 2, 3, 4, 54, 55] hk
      (repeat' (first | (show wpListIn _ _ _ _ _ (_ :: _) _ _; first | (refine wx1 ?_; clear hk a; intro a hk) | (refine wx2 ?_ ?_ <;> (intro hp; clear hk a; intro a hk)) | (refine wx3 ?_; clear hk hS a; intro w b hS a hk) | (refine wx4 ?_; clear hk hS a; intro w hS a hk) | (refine wx5 ?_; clear hk hS a; intro w v hS a hk) | fail) | refine wx0 ?_ | (refine s_end hk ?_; clear hk a; intro a hk) | fail))
      exact ⟨hlt, (aovn, cvn), hk.sd, hS.sb, by omega⟩
    · have hin : i = 4 := by omega
      subst hin
      have e4 : True := trivial
      (repeat' (first | (show wpListIn _ _ _ _ _ (_ :: _) _ _; first | (refine wx1 ?_; clear hk a; intro a hk) | (refine wx2 ?_ ?_ <;> (intro hp; clear hk a; intro a hk)) | (refine wx3 ?_; clear hk hS a; intro w b hS a hk) | (refine wx4 ?_; clear hk hS a; intro w hS a hk) | (refine wx5 ?_; clear hk hS a; intro w v hS a hk) | fail) | refine wx0 ?_ | (refine s_end hk ?_; clear hk a; intro a hk) | fail))
      refine done1R hk rfl (.str hS (hT := aT rfl) (hs := zT rfl)) (h := ?_)
      exact treeH.of (h := (k, cutF tag 20, cutF key 20, cutF text 70, ⟨aov18, (few03 cl 4).length, cv18⟩, ⟨ao, 4, c⟩, ⟨aov21, (few04 sl 4).length, cv21⟩, (e, lv, m, d, p, q), ⟨none, 0, 0⟩)) (treeR.of (A1 := OwT 9 (few03 cl 4) (.slice aov18 (few03 cl 4).length cv18)) (A2 := OwT 97 (fewA al 4) (.slice ao 4 c)) (A3 := OwT 105 (few04 sl 4) (.slice aov21 (few04 sl 4).length cv21)) (A4 := OwT 31 ([] : List NdH) (.slice none 0 0)) (H := []) (kids := []) ((forR.nil (hS.nilT 31 NdH)).sub (by (repeat (first | exact Sub.nil | exact Sub.refl | refine Sub.cons (by (repeat (first | exact At.here | apply At.there))) ?_)))))
  · have e4 : fewA al i = fewA al 4 := by simp only [fewA]; rw [List.take_of_length_le (by omega), List.take_of_length_le (by omega)]
    rw [e4] at hS
    (repeat' (first | (show wpListIn _ _ _ _ _ (_ :: _) _ _; first | (refine wx1 ?_; clear hk a; intro a hk) | (refine wx2 ?_ ?_ <;> (intro hp; clear hk a; intro a hk)) | (refine wx3 ?_; clear hk hS a; intro w b hS a hk) | (refine wx4 ?_; clear hk hS a; intro w hS a hk) | (refine wx5 ?_; clear hk hS a; intro w v hS a hk) | fail) | refine wx0 ?_ | (refine s_end hk ?_; clear hk a; intro a hk) | fail))
    refine done1R hk rfl (.str hS (hT := aT rfl) (hs := zT rfl)) (h := ?_)
    exact treeH.of (h := (k, cutF tag 20, cutF key 20, cutF text 70, ⟨aov18, (few03 cl 4).length, cv18⟩, ⟨ao, i, c⟩, ⟨aov21, (few04 sl 4).length, cv21⟩, (e, lv, m, d, p, q), ⟨none, 0, 0⟩)) (treeR.of (A1 := OwT 9 (few03 cl 4) (.slice aov18 (few03 cl 4).length cv18)) (A2 := OwT 97 (fewA al 4) (.slice ao i c)) (A3 := OwT 105 (few04 sl 4) (.slice aov21 (few04 sl 4).length cv21)) (A4 := OwT 31 ([] : List NdH) (.slice none 0 0)) (H := []) (kids := []) ((forR.nil (hS.nilT 31 NdH)).sub (by (repeat (first | exact Sub.nil | exact Sub.refl | refine Sub.cons (by (repeat (first | exact At.here | apply At.there))) ?_)))))
end Go.Proofs.YtkcjkbnbblpomaaGreatDoor
