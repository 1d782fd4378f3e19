/- Layer 7: views as the program's own; views of flat nodes. Layer 7: nodes told flat, each with how deep it stands. Layer 7: views of flat nodes. Layer 7: views as they are shown, in plain words. Layer 7: which views may be, in plain words. Layer 8, plain: a view that may be, as it is written: short, and read again. Layer 7: how great, how deep a view is, in plain words. -/
import Derived.Test.YtipdgobplfkipaaGreatDoorP17
import Derived.Test.YtipdgobplfkipaaGreatDoorP07
import Derived.Test.YtipdgobplfkipaaGreatDoorP14
set_option linter.all false
namespace Go.Proofs.YtipdgobplfkipaaGreatDoor
open Go.RowKit
set_option maxRecDepth 100000
attribute [local irreducible] Go.Code.wpIn Go.wpListIn Go.Calls Gives Go.Exit.then Go.Exit.inBlock Done ObxE

set_option maxHeartbeats 4000000 in
theorem own07_any : ∀ (n : Nat) (t : Tree) (h : NdH) (w0 : World), SizeOf.sizeOf t < n → Fits t → TrR w0 t h → Calls Tryz.prog 18 #[ndV h] w0 (Ret fun v w => St w0 [treeH t v] w)
  | 0, _, _, _, hn, _, _ => by omega
  | n + 1, t, h, w0, hn, hf, hr => by
    have ih := own07_any n
    obtain ⟨k, tag, key, text, cl, al, sl, e, lv, m, d, p, q, kids, a1, m1, a2, m2, a3, m3, a4, m4, H, rfl, rfl, c1, c2, c3, c4, hF⟩ := hr.split
    obtain ⟨l1, l2, l3, l4, l5⟩ := hf
    show Calls Tryz.prog 18 #[.agg #[.int .i64 k, .string tag, .string key, .string text, .slice a1 cl.length m1, .slice a2 al.length m2, .slice a3 sl.length m3, .int .i64 e, .int .i64 lv, .int .i64 m, .int .i64 d, .bool p, .bool q, .slice a4 H.length m4]] w0 _
    refine enter Tryz.func18 rfl Tryz.ntmps18 rfl (fun a hk => ?_); have hS := St.refl w0
    (repeat' (first | (show wpListIn _ _ _ _ _ (_ :: _) _ _; first | (refine wx1 ?_; clear hk a; intro a hk) | (refine wx2 ?_ ?_ <;> (intro hp; clear hk a; intro a hk)) | (refine wx3 ?_; clear hk hS a; intro w b hS a hk) | (refine wx4 ?_; clear hk hS a; intro w hS a hk) | (refine wx5 ?_; clear hk hS a; intro w v hS a hk) | fail) | refine wx0 ?_ | (refine s_end hk ?_; clear hk a; intro a hk) | fail))
    rename_i b1
    rename Nat => b2
    refine wp_drawn 19 mixed (by kernel_rfl) hk hS ?_; clear hk hS a
    (repeat' (first | (show ObxE _ _ _ _ _ _ _ _ _ (_ :: _) _ _ _; first | refine ox1 ?_ | (refine ox2 ?_ ?_ <;> intro hp) | fail) | fail))
    refine' obe_res (fun us a w hk hd hS => ?_) ?_; rotate_left; focus (have hk := Kn.vw hk (by repeat (first | exact VW.nil | apply VW.val rfl | apply VW.base rfl rfl | apply VW.res rfl | apply VW.upd rfl | apply VW.cpy rfl | apply VW.dep rfl | apply VW.fn rfl | apply VW.lnd rfl | apply VW.tak rfl)); exact v_bs0 (hT := eT rfl) (hE := zT rfl))
    (repeat' (first | (show ObxE _ _ _ _ _ _ _ _ _ (_ :: _) _ _ _; first | refine ox1 ?_ | (refine ox2 ?_ ?_ <;> intro hp) | fail) | fail))
    refine' obe_res (fun us a w hk hd hS => ?_) ?_; rotate_left; focus (have hk := Kn.vw hk (by repeat (first | exact VW.nil | apply VW.val rfl | apply VW.base rfl rfl | apply VW.res rfl | apply VW.upd rfl | apply VW.cpy rfl | apply VW.dep rfl | apply VW.fn rfl | apply VW.lnd rfl | apply VW.tak rfl)); exact v_appR (ys := cl) hk hd.1 (hT := eT rfl) (hTx := eT rfl) (hE := zT rfl) (hz := oT rfl) (hzs := rfl) (hs := hS.rdT c1) (hby := bT rfl) (hbytes := by omega) (h63 := by simp only [maxLen]; omega))
    (repeat' (first | (show ObxE _ _ _ _ _ _ _ _ _ (_ :: _) _ _ _; first | refine ox1 ?_ | (refine ox2 ?_ ?_ <;> intro hp) | fail) | fail))
    refine' obe_res (fun us a w hk hd hS => ?_) ?_; rotate_left; focus (have hk := Kn.vw hk (by repeat (first | exact VW.nil | apply VW.val rfl | apply VW.base rfl rfl | apply VW.res rfl | apply VW.upd rfl | apply VW.cpy rfl | apply VW.dep rfl | apply VW.fn rfl | apply VW.lnd rfl | apply VW.tak rfl)); exact g_callO hk (hf := by kernel_rfl) (hc := own04_any sl _ _ (hS.rdT c3) (by omega)) (h := fun _ _ h => h))
    (repeat' (first | (show ObxE _ _ _ _ _ _ _ _ _ (_ :: _) _ _ _; first | refine ox1 ?_ | (refine ox2 ?_ ?_ <;> intro hp) | fail) | fail))
    refine' obe_fn [11, 14] (fun l => .agg #[.int .i64 k, .string tag, .string key, .string text, l.getD 0 undef, .slice none 0 0, l.getD 1 undef, .int .i64 e, .int .i64 lv, .int .i64 m, .int .i64 d, .bool p, .bool q, .slice none 0 0]) (fun us a w hk hd hS => ?_) ?_ (by intro k e; simp only [List.mem_cons, List.not_mem_nil, or_false] at e; rcases e with rfl | rfl; exact ⟨19, _, rfl, rfl⟩; exact ⟨22, _, rfl, rfl⟩)
    · have hk := Kn.vw hk (by repeat (first | exact VW.nil | apply VW.val rfl | apply VW.base rfl rfl | apply VW.res rfl | apply VW.upd rfl | apply VW.cpy rfl | apply VW.dep rfl | apply VW.fn rfl | apply VW.lnd rfl | apply VW.tak rfl))
      have h1 : (appH 9 cl (us 11)).rd w := hd.2.2.2.2.1
      have h2 : (OwT 77 sl (us 14)).rd w := hd.2.2.2.2.2.1
      obtain ⟨_, _, e1, _⟩ := (appH.rd h1).shape
      obtain ⟨_, _, e2, _⟩ := (OwT.rd h2).shape
      simp only [Nat.zero_add, Nat.reduceAdd] at hk
      simp only [List.map, List.getD_cons_zero, List.getD_cons_succ]
      rw [e1, e2] at hk ⊢
      exact g_build hk ⟨rfl, St.refl w⟩ (fsT rfl) (oT rfl)
    refine' obe_res (fun us a w hk hd hS => ?_) ?_; rotate_left; focus (have hk := Kn.vw hk (by repeat (first | exact VW.nil | apply VW.val rfl | apply VW.base rfl rfl | apply VW.res rfl | apply VW.upd rfl | apply VW.cpy rfl | apply VW.dep rfl | apply VW.fn rfl | apply VW.lnd rfl | apply VW.tak rfl)); exact v_alloc hk (oT rfl))
    refine obe_nil ⟨rfl, ?_⟩; intro us a w hk hS
    simp only [resE, List.cons_append, List.nil_append, Nat.zero_add, Nat.reduceAdd] at hS
    obtain ⟨b3, hb3, hS1⟩ := hS.ptv (by (repeat (first | exact At.here | apply At.there))); replace hS := hS1; clear hS1
    replace hk := Kn.kp [1, 2, 3, 25] hk
    simp only [HV.of, List.map, List.getD_cons_zero, List.getD_cons_succ, Nat.zero_add, Nat.reduceAdd] at hk
    generalize us 11 = v19 at hS hk
    generalize us 14 = v22 at hS hk
    generalize us 8 = v16 at hS
    rw [hb3] at hk
    obtain ⟨a19, m19, rfl, _⟩ := (appH.rd (hS.rd (A := appH 9 cl v19) (by (repeat (first | exact At.here | apply At.there))))).shape
    obtain ⟨aov22, cv22, hshp, _⟩ := (OwT.rd (hS.rd (A := OwT 77 _ v22) (by (repeat (first | exact At.here | apply At.there))))).shape; subst hshp
    (repeat' (first | (show wpListIn _ _ _ _ _ (_ :: _) _ _; first | (refine wx1 ?_; clear hk a; intro a hk) | (refine wx2 ?_ ?_ <;> (intro hp; clear hk a; intro a hk)) | (refine wx3 ?_; clear hk hS a; intro w b hS a hk) | (refine wx4 ?_; clear hk hS a; intro w hS a hk) | (refine wx5 ?_; clear hk hS a; intro w v hS a hk) | fail) | refine wx0 ?_ | (refine s_end hk ?_; clear hk a; intro a hk) | fail))
    replace hS := hS.nilT 76 PrS
    replace hk := Kn.kp [1, 2, 3, 27, 28, 29] hk
    refine wp_for al.length (fun i _ => [(29, .int .i64 (i : Int))]) (fun i v => [OwT 76 (al.take i) (.slice v.1 i v.2), pts b3 [.int .i64 k, .string tag, .string key, .string text, .slice a19 cl.length m19, .slice v.1 i v.2, .slice aov22 sl.length cv22, .int .i64 e, .int .i64 lv, .int .i64 m, .int .i64 d, .bool p, .bool q, .slice none 0 0] 33, OwT 77 sl (.slice aov22 sl.length cv22), appH 9 cl (.slice a19 cl.length m19), pts b2 [.int .i64 0, .string ⟨#[]⟩, .string ⟨#[]⟩, .string ⟨#[]⟩, .slice none 0 0, .slice none 0 0, .slice none 0 0, .int .i64 0, .int .i64 0, .int .i64 0, .int .i64 0, .bool false, .bool false, .slice none 0 0] 33, pts b1 [.int .i64 k, .string tag, .string key, .string text, .slice a1 cl.length m1, .slice a2 al.length m2, .slice a3 sl.length m3, .int .i64 e, .int .i64 lv, .int .i64 m, .int .i64 d, .bool p, .bool q, .slice a4 H.length m4] 42]) (fun _ _ => True) ((none, 0) : Option Addr × Nat) hk (by repeat (first | exact trivial | refine ⟨rfl, ?_⟩)) hS.sb trivial ?_
    clear hk hS a
    rintro i ⟨ao, c⟩ a w hi hk hS -
    by_cases hil : i < al.length
    · obtain ⟨⟨nm, val⟩, hx⟩ : ∃ x, al[i]? = some x := ⟨_, List.getElem?_eq_getElem hil⟩
      have hst : al.take (i + 1) = al.take i ++ [(nm, val)] := take_snoc hx
      have htl : (al.take i).length = i := by rw [List.length_take]; omega
      have hv1 := hS.rdT c2
      simp only at hS hk
      (repeat' (first | (show wpListIn _ _ _ _ _ (_ :: _) _ _; first | (refine wx1 ?_; clear hk a; intro a hk) | (refine wx2 ?_ ?_ <;> (intro hp; clear hk a; intro a hk)) | (refine wx3 ?_; clear hk hS a; intro w b hS a hk) | (refine wx4 ?_; clear hk hS a; intro w hS a hk) | (refine wx5 ?_; clear hk hS a; intro w v hS a hk) | fail) | refine wx0 ?_ | (refine s_end hk ?_; clear hk a; intro a hk) | fail))
      have htl1 : (al.take (i + 1)).length = i + 1 := by rw [List.length_take]; omega
      refine sg hk (g_bsT (xs := [((nm, val) : ByteArray × ByteArray)]) (m := 0) hk hS ?_ (hT := eT rfl) (hE := zT rfl) (hz := oT rfl)); clear hk hS a; intro w ve hS a hk
      (repeat' (first | (show wpListIn _ _ _ _ _ (_ :: _) _ _; first | (refine wx1 ?_; clear hk a; intro a hk) | (refine wx2 ?_ ?_ <;> (intro hp; clear hk a; intro a hk)) | (refine wx3 ?_; clear hk hS a; intro w b hS a hk) | (refine wx4 ?_; clear hk hS a; intro w hS a hk) | (refine wx5 ?_; clear hk hS a; intro w v hS a hk) | fail) | refine wx0 ?_ | (refine s_end hk ?_; clear hk a; intro a hk) | fail))
      rw [← hst] at hS
      rename Value => vn
      obtain ⟨aovn, cvn, hshp, _⟩ := (OwT.rd (hS.rd (A := OwT 76 _ vn) (by (repeat (first | exact At.here | apply At.there))))).shape; subst hshp
      rw [htl1] at hS hk
      (repeat' (first | (show wpListIn _ _ _ _ _ (_ :: _) _ _; first | (refine wx1 ?_; clear hk a; intro a hk) | (refine wx2 ?_ ?_ <;> (intro hp; clear hk a; intro a hk)) | (refine wx3 ?_; clear hk hS a; intro w b hS a hk) | (refine wx4 ?_; clear hk hS a; intro w hS a hk) | (refine wx5 ?_; clear hk hS a; intro w v hS a hk) | fail) | refine wx0 ?_ | (refine s_end hk ?_; clear hk a; intro a hk) | fail))
      exact ⟨hil, (aovn, cvn), hk.sd, hS.sb, trivial⟩
    · have : i = al.length := by omega
      subst this
      rw [List.take_length] at hS
      simp only at hS hk
      have c4' := hS.rdT c4
      have hF' := hS.rdFo hF
      (repeat' (first | (show wpListIn _ _ _ _ _ (_ :: _) _ _; first | (refine wx1 ?_; clear hk a; intro a hk) | (refine wx2 ?_ ?_ <;> (intro hp; clear hk a; intro a hk)) | (refine wx3 ?_; clear hk hS a; intro w b hS a hk) | (refine wx4 ?_; clear hk hS a; intro w hS a hk) | (refine wx5 ?_; clear hk hS a; intro w v hS a hk) | fail) | refine wx0 ?_ | (refine s_end hk ?_; clear hk a; intro a hk) | fail))
      replace hS := forR.nil (hS.nilT 33 NdH)
      replace hk := Kn.kp [2, 3, 41, 42, 43] hk
      refine wp_for H.length (fun i _ => [(43, .int .i64 (i : Int))]) (fun i v => [forR (kids.take i) (v.2 : List NdH), OwT 33 v.2 (.slice v.1.1 i v.1.2), pts b3 [.int .i64 k, .string tag, .string key, .string text, .slice a19 cl.length m19, .slice ao al.length c, .slice aov22 sl.length cv22, .int .i64 e, .int .i64 lv, .int .i64 m, .int .i64 d, .bool p, .bool q, .slice v.1.1 i v.1.2] 33, OwT 76 al (.slice ao al.length c), OwT 77 sl (.slice aov22 sl.length cv22), appH 9 cl (.slice a19 cl.length m19), pts b2 [.int .i64 0, .string ⟨#[]⟩, .string ⟨#[]⟩, .string ⟨#[]⟩, .slice none 0 0, .slice none 0 0, .slice none 0 0, .int .i64 0, .int .i64 0, .int .i64 0, .int .i64 0, .bool false, .bool false, .slice none 0 0] 33]) (fun _ _ => True) (((none, 0), []) : (Option Addr × Nat) × List NdH) hk (by repeat (first | exact trivial | refine ⟨rfl, ?_⟩)) hS.sb trivial ?_
      clear hk hS a
      rintro j ⟨⟨ak, ck⟩, H'⟩ a w hj hk hS -
      have hFH := hS.foR .here
      have hkl : (kids.take j).length = j := by rw [List.length_take, ← hF.1]; omega
      have hHl : H'.length = j := by rw [hFH.1, hkl]
      by_cases hjl : j < H.length
      · obtain ⟨tk, htk⟩ : ∃ t, kids[j]? = some t := ⟨_, List.getElem?_eq_getElem (by rw [← hF.1]; exact hjl)⟩
        obtain ⟨hd0, hx⟩ : ∃ x, H[j]? = some x := ⟨_, List.getElem?_eq_getElem hjl⟩
        have hTr := hF.2 j tk hd0 htk hx
        have hfk := l5 tk (List.mem_of_getElem? htk)
        have hlt : SizeOf.sizeOf tk < n := by have := kid_lt (k := k) (tag := tag) (key := key) (text := text) (cl := cl) (at_ := al) (st := sl) (o := (e, lv, m, d, p, q)) (List.mem_of_getElem? htk); omega
        have hst : kids.take (j + 1) = kids.take j ++ [tk] := take_snoc htk
        have c4'' := hS.rdT c4
        simp only at hS hk
        obtain ⟨k', tag', key', text', ⟨x1, x2, x3⟩, ⟨y1, y2, y3⟩, ⟨z1, z2, z3⟩, ⟨e', lv', m', d', p', q'⟩, ⟨u1, u2, u3⟩⟩ := hd0
        (repeat' (first | (show wpListIn _ _ _ _ _ (_ :: _) _ _; first | (refine wx1 ?_; clear hk a; intro a hk) | (refine wx2 ?_ ?_ <;> (intro hp; clear hk a; intro a hk)) | (refine wx3 ?_; clear hk hS a; intro w b hS a hk) | (refine wx4 ?_; clear hk hS a; intro w hS a hk) | (refine wx5 ?_; clear hk hS a; intro w v hS a hk) | fail) | refine wx0 ?_ | (refine s_end hk ?_; clear hk a; intro a hk) | fail))
        refine wp_drawn 5 mixed (by kernel_rfl) hk hS ?_; clear hk hS a
        (repeat' (first | (show ObxE _ _ _ _ _ _ _ _ _ (_ :: _) _ _ _; first | refine ox1 ?_ | (refine ox2 ?_ ?_ <;> intro hp) | fail) | fail))
        refine' obe_res (fun us a w hk hd hS => ?_) ?_; rotate_left; focus (have hk := Kn.vw hk (by repeat (first | exact VW.nil | apply VW.val rfl | apply VW.base rfl rfl | apply VW.res rfl | apply VW.upd rfl | apply VW.cpy rfl | apply VW.dep rfl | apply VW.fn rfl | apply VW.lnd rfl | apply VW.tak rfl)); exact g_callO hk (hf := by kernel_rfl) (hc := ih tk (k', tag', key', text', ⟨x1, x2, x3⟩, ⟨y1, y2, y3⟩, ⟨z1, z2, z3⟩, (e', lv', m', d', p', q'), ⟨u1, u2, u3⟩) _ hlt hfk (hS.rdTr hTr)) (h := fun _ _ h => h))
        refine' obe_dep 50 3 (V := fun u v => OwT 33 [ndOf u] v) (fun us a w hk hd hS => ?_) ?_
        · have hk := Kn.vw hk (by repeat (first | exact VW.nil | apply VW.val rfl | apply VW.base rfl rfl | apply VW.res rfl | apply VW.upd rfl | apply VW.cpy rfl | apply VW.dep rfl | apply VW.fn rfl | apply VW.lnd rfl | apply VW.tak rfl))
          have hG : (treeH tk (us 3)).rd w := hd.1
          obtain ⟨⟨k2, tag2, key2, text2, ⟨x12, x22, x32⟩, ⟨y12, y22, y32⟩, ⟨z12, z22, z32⟩, ⟨e2, lv2, m2, d2, p2, q2⟩, ⟨u12, u22, u32⟩⟩, he, _⟩ := treeH.rd hG
          show Gives _ _ _ _ (fun v w' => St w [OwT 33 [ndOf (us 3)] v] w')
          simp only [Nat.zero_add, Nat.reduceAdd] at hk
          rw [he] at hk ⊢
          rw [ndOf_ndV]
          exact v_bsT (xs := [((k2, tag2, key2, text2, ⟨x12, x22, x32⟩, ⟨y12, y22, y32⟩, ⟨z12, z22, z32⟩, (e2, lv2, m2, d2, p2, q2), ⟨u12, u22, u32⟩) : NdH)]) (m := 0) hk (hT := eT rfl) (hE := zT rfl) (hz := oT rfl)
        refine obe_nil ⟨rfl, ?_⟩; intro us a w hk hS
        simp only [resE, List.cons_append, List.nil_append, Nat.zero_add, Nat.reduceAdd] at hS
        replace hk := Kn.kp [2, 3, 41, 42, 43, 48, 50, 51] hk
        simp only [HV.of, Nat.zero_add, Nat.reduceAdd] at hk
        generalize us 3 = v50 at hS hk
        generalize us 4 = v51 at hS hk
        obtain ⟨hd1, rfl, hS1⟩ := St.tree hS (.there .here)
        clear hS
        have hS := hS1
        clear hS1
        rw [ndOf_ndV] at hS
        have hHk : H.length = kids.length := hF.1
        (repeat' (first | (show wpListIn _ _ _ _ _ (_ :: _) _ _; first | (refine wx1 ?_; clear hk a; intro a hk) | (refine wx2 ?_ ?_ <;> (intro hp; clear hk a; intro a hk)) | (refine wx3 ?_; clear hk hS a; intro w b hS a hk) | (refine wx4 ?_; clear hk hS a; intro w hS a hk) | (refine wx5 ?_; clear hk hS a; intro w v hS a hk) | fail) | refine wx0 ?_ | (refine s_end hk ?_; clear hk a; intro a hk) | fail))
        have hl1 : (H' ++ [hd1]).length = j + 1 := by rw [List.length_append, hHl]; rfl
        rename Value => vn
        obtain ⟨aovn, cvn, hshp, _⟩ := (OwT.rd (hS.rd (A := OwT 33 _ vn) (by (repeat (first | exact At.here | apply At.there))))).shape; subst hshp
        rw [hl1] at hS hk
        (repeat' (first | (show wpListIn _ _ _ _ _ (_ :: _) _ _; first | (refine wx1 ?_; clear hk a; intro a hk) | (refine wx2 ?_ ?_ <;> (intro hp; clear hk a; intro a hk)) | (refine wx3 ?_; clear hk hS a; intro w b hS a hk) | (refine wx4 ?_; clear hk hS a; intro w hS a hk) | (refine wx5 ?_; clear hk hS a; intro w v hS a hk) | fail) | refine wx0 ?_ | (refine s_end hk ?_; clear hk a; intro a hk) | fail))
        have hS1 := forR.snoc (L := [OwT 33 (H' ++ [hd1]) (.slice aovn (j + 1) cvn), pts b3 [.int .i64 k, .string tag, .string key, .string text, .slice a19 cl.length m19, .slice ao al.length c, .slice aov22 sl.length cv22, .int .i64 e, .int .i64 lv, .int .i64 m, .int .i64 d, .bool p, .bool q, .slice aovn (j + 1) cvn] 33, OwT 76 al (.slice ao al.length c), OwT 77 sl (.slice aov22 sl.length cv22), appH 9 cl (.slice a19 cl.length m19), pts b2 [.int .i64 0, .string ⟨#[]⟩, .string ⟨#[]⟩, .string ⟨#[]⟩, .slice none 0 0, .slice none 0 0, .slice none 0 0, .int .i64 0, .int .i64 0, .int .i64 0, .int .i64 0, .bool false, .bool false, .slice none 0 0] 33]) (ts := kids.take j) (H := H') (t := tk) (h := hd1) (hS.sub (by (repeat (first | exact Sub.nil | exact Sub.refl | refine Sub.cons (by (repeat (first | exact At.here | apply At.there))) ?_))))
        rw [← hst] at hS1
        exact ⟨hjl, ((aovn, cvn), H' ++ [hd1]), hk.sd, hS1, trivial⟩
      · have hjj : j = kids.length := by have := hF.1; omega
        subst hjj
        rw [List.take_length] at hS
        simp only at hS hk
        (repeat' (first | (show wpListIn _ _ _ _ _ (_ :: _) _ _; first | (refine wx1 ?_; clear hk a; intro a hk) | (refine wx2 ?_ ?_ <;> (intro hp; clear hk a; intro a hk)) | (refine wx3 ?_; clear hk hS a; intro w b hS a hk) | (refine wx4 ?_; clear hk hS a; intro w hS a hk) | (refine wx5 ?_; clear hk hS a; intro w v hS a hk) | fail) | refine wx0 ?_ | (refine s_end hk ?_; clear hk a; intro a hk) | fail))
        refine done1R hk rfl (.str hS (hT := aT rfl) (hs := zT rfl)) (h := ?_)
        exact treeH.of (h := (k, tag, key, text, ⟨a19, cl.length, m19⟩, ⟨ao, al.length, c⟩, ⟨aov22, sl.length, cv22⟩, (e, lv, m, d, p, q), ⟨ak, kids.length, ck⟩)) (treeR.of (A1 := appH 9 cl (.slice a19 cl.length m19)) (A2 := OwT 76 al (.slice ao al.length c)) (A3 := OwT 77 sl (.slice aov22 sl.length cv22)) (A4 := OwT 33 H' (.slice ak kids.length ck)) (hS.sub (by (repeat (first | exact Sub.nil | exact Sub.refl | refine Sub.cons (by (repeat (first | exact At.here | apply At.there))) ?_)))))
end Go.Proofs.YtipdgobplfkipaaGreatDoor
namespace Go.Proofs.YtipdgobplfkipaaGreatDoor
open Go.RowKit
set_option maxRecDepth 100000
attribute [local irreducible] Go.Code.wpIn Go.wpListIn Go.Calls Gives Go.Exit.then Go.Exit.inBlock Done ObxE

abbrev FlH := Int × Int × ByteArray × ByteArray × ByteArray × Hd × Hd × Hd × Opt
abbrev flV (h : FlH) : Value := .agg (Enc.f h).toArray
def fewA (l : List (ByteArray × ByteArray)) (n : Nat) : List (ByteArray × ByteArray) := (l.take n).map (fun p => (cutF p.1 20, cutF p.2 40))
theorem fewA_len (l : List (ByteArray × ByteArray)) (n : Nat) : (fewA l n).length = min n l.length := by simp [fewA]
theorem fewA_snoc {l : List (ByteArray × ByteArray)} {i : Nat} {x : ByteArray × ByteArray} (h : l[i]? = some x) : fewA l (i + 1) = fewA l i ++ [(cutF x.1 20, cutF x.2 40)] := by simp [fewA, take_snoc h]
theorem cutF_len (s : ByteArray) (n : Nat) : (cutF s n).size ≤ n := by
  unfold cutF
  split
  · simp; omega
  · omega

def nodeF (k : Int) (tag key text : ByteArray) (cl : List ByteArray) (al : List (ByteArray × ByteArray)) (sl : List (ByteArray × Int)) (o : Opt) : Tree :=
  .mk k (cutF tag 20) (cutF key 20) (cutF text 70) (few03 cl 4) (fewA al 4) (few04 sl 4) o []

set_option maxHeartbeats 4000000 in
theorem node07_any (dp k : Int) (tag key text : ByteArray) (cl : List ByteArray) (al : List (ByteArray × ByteArray)) (sl : List (ByteArray × Int)) (e lv m d : Int) (p q : Bool) (a1 a2 a3 : Option Addr) (m1 m2 m3 : Nat) (w0 : World)
    (c1 : SlT cl (.slice a1 cl.length m1) w0) (c2 : SlT al (.slice a2 al.length m2) w0) (c3 : SlT sl (.slice a3 sl.length m3) w0) :
    Calls Tryz.prog 34 #[.agg #[.int .i64 dp, .int .i64 k, .string tag, .string key, .string text, .slice a1 cl.length m1, .slice a2 al.length m2, .slice a3 sl.length m3, .int .i64 e, .int .i64 lv, .int .i64 m, .int .i64 d, .bool p, .bool q]] w0
      (Ret fun v w => St w0 [treeH (nodeF k tag key text cl al sl (e, lv, m, d, p, q)) v] w) := by
  have ll := few03_len cl 4
  have hs4 := few04_len sl 4
  have hm2 : al.length ≤ maxLen := c2.len_le
  simp only [maxLen] at hm2
  refine enter Tryz.func34 rfl Tryz.ntmps34 rfl (fun a hk => ?_); have hS := St.refl w0
  (repeat' (first | (show wpListIn _ _ _ _ _ (_ :: _) _ _; first | (refine wx1 ?_; clear hk a; intro a hk) | (refine wx2 ?_ ?_ <;> (intro hp; clear hk a; intro a hk)) | (refine wx3 ?_; clear hk hS a; intro w b hS a hk) | (refine wx4 ?_; clear hk hS a; intro w hS a hk) | (refine wx5 ?_; clear hk hS a; intro w v hS a hk) | fail) | refine wx0 ?_ | (refine s_end hk ?_; clear hk a; intro a hk) | fail))
  rename_i b1
  rename Nat => b2
  refine wp_drawn 21 mixed (by kernel_rfl) hk hS ?_; clear hk hS a
  (repeat' (first | (show ObxE _ _ _ _ _ _ _ _ _ (_ :: _) _ _ _; first | refine ox1 ?_ | (refine ox2 ?_ ?_ <;> intro hp) | fail) | fail))
  refine' obe_val (fun us a w hk hd hS => ?_) ?_; rotate_left; focus (have hk := Kn.vw hk (by repeat (first | exact VW.nil | apply VW.val rfl | apply VW.base rfl rfl | apply VW.res rfl | apply VW.upd rfl | apply VW.cpy rfl | apply VW.dep rfl | apply VW.fn rfl | apply VW.lnd rfl | apply VW.tak rfl)); exact g_callO hk (hf := by kernel_rfl) (hc := cut_any _ 20 _) (h := fun _ _ h => h))
  (repeat' (first | (show ObxE _ _ _ _ _ _ _ _ _ (_ :: _) _ _ _; first | refine ox1 ?_ | (refine ox2 ?_ ?_ <;> intro hp) | fail) | fail))
  refine' obe_val (fun us a w hk hd hS => ?_) ?_; rotate_left; focus (have hk := Kn.vw hk (by repeat (first | exact VW.nil | apply VW.val rfl | apply VW.base rfl rfl | apply VW.res rfl | apply VW.upd rfl | apply VW.cpy rfl | apply VW.dep rfl | apply VW.fn rfl | apply VW.lnd rfl | apply VW.tak rfl)); exact g_callO hk (hf := by kernel_rfl) (hc := cut_any _ 20 _) (h := fun _ _ h => h))
  (repeat' (first | (show ObxE _ _ _ _ _ _ _ _ _ (_ :: _) _ _ _; first | refine ox1 ?_ | (refine ox2 ?_ ?_ <;> intro hp) | fail) | fail))
  refine' obe_val (fun us a w hk hd hS => ?_) ?_; rotate_left; focus (have hk := Kn.vw hk (by repeat (first | exact VW.nil | apply VW.val rfl | apply VW.base rfl rfl | apply VW.res rfl | apply VW.upd rfl | apply VW.cpy rfl | apply VW.dep rfl | apply VW.fn rfl | apply VW.lnd rfl | apply VW.tak rfl)); exact g_callO hk (hf := by kernel_rfl) (hc := cut_any _ 70 _) (h := fun _ _ h => h))
  (repeat' (first | (show ObxE _ _ _ _ _ _ _ _ _ (_ :: _) _ _ _; first | refine ox1 ?_ | (refine ox2 ?_ ?_ <;> intro hp) | fail) | fail))
  refine' obe_res (fun us a w hk hd hS => ?_) ?_; rotate_left; focus (have hk := Kn.vw hk (by repeat (first | exact VW.nil | apply VW.val rfl | apply VW.base rfl rfl | apply VW.res rfl | apply VW.upd rfl | apply VW.cpy rfl | apply VW.dep rfl | apply VW.fn rfl | apply VW.lnd rfl | apply VW.tak rfl)); exact g_callO hk (hf := by kernel_rfl) (hc := few03_any cl 4 (by omega) _ _ (hS.rdT c1)) (h := fun _ _ h => h))
  (repeat' (first | (show ObxE _ _ _ _ _ _ _ _ _ (_ :: _) _ _ _; first | refine ox1 ?_ | (refine ox2 ?_ ?_ <;> intro hp) | fail) | fail))
  refine' obe_res (fun us a w hk hd hS => ?_) ?_; rotate_left; focus (have hk := Kn.vw hk (by repeat (first | exact VW.nil | apply VW.val rfl | apply VW.base rfl rfl | apply VW.res rfl | apply VW.upd rfl | apply VW.cpy rfl | apply VW.dep rfl | apply VW.fn rfl | apply VW.lnd rfl | apply VW.tak rfl)); exact g_callO hk (hf := by kernel_rfl) (hc := few04_any sl 4 (by omega) _ _ (hS.rdT c3)) (h := fun _ _ h => h))
  (repeat' (first | (show ObxE _ _ _ _ _ _ _ _ _ (_ :: _) _ _ _; first | refine ox1 ?_ | (refine ox2 ?_ ?_ <;> intro hp) | fail) | fail))
  refine' obe_fn [13, 16] (fun l => .agg #[.int .i64 k, .string (cutF tag 20), .string (cutF key 20), .string (cutF text 70), l.getD 0 undef, .slice none 0 0, l.getD 1 undef, .int .i64 e, .int .i64 lv, .int .i64 m, .int .i64 d, .bool p, .bool q, .slice none 0 0]) (fun us a w hk hd hS => ?_) ?_ (by intro k e; simp only [List.mem_cons, List.not_mem_nil, or_false] at e; rcases e with rfl | rfl; exact ⟨18, _, rfl, rfl⟩; exact ⟨21, _, rfl, rfl⟩)
  · have hk := Kn.vw hk (by repeat (first | exact VW.nil | apply VW.val rfl | apply VW.base rfl rfl | apply VW.res rfl | apply VW.upd rfl | apply VW.cpy rfl | apply VW.dep rfl | apply VW.fn rfl | apply VW.lnd rfl | apply VW.tak rfl))
    have h1 : (OwT 9 (few03 cl 4) (us 13)).rd w := hd.2.2.2.2.1
    have h2 : (OwT 75 (few04 sl 4) (us 16)).rd w := hd.2.2.2.2.2.1
    obtain ⟨_, _, e1, _⟩ := (OwT.rd h1).shape
    obtain ⟨_, _, e2, _⟩ := (OwT.rd h2).shape
    simp only [Nat.zero_add, Nat.reduceAdd] at hk
    simp only [List.map, List.getD_cons_zero, List.getD_cons_succ]
    rw [e1, e2] at hk ⊢
    exact g_build hk ⟨rfl, St.refl w⟩ (fsT rfl) (oT rfl)
  refine' obe_res (fun us a w hk hd hS => ?_) ?_; rotate_left; focus (have hk := Kn.vw hk (by repeat (first | exact VW.nil | apply VW.val rfl | apply VW.base rfl rfl | apply VW.res rfl | apply VW.upd rfl | apply VW.cpy rfl | apply VW.dep rfl | apply VW.fn rfl | apply VW.lnd rfl | apply VW.tak rfl)); exact v_alloc hk (oT rfl))
  refine obe_nil ⟨rfl, ?_⟩; intro us a w hk hS
  simp only [resE, List.cons_append, List.nil_append, Nat.zero_add, Nat.reduceAdd] at hS
  obtain ⟨b3, hb3, hS1⟩ := hS.ptv (by (repeat (first | exact At.here | apply At.there))); replace hS := hS1; clear hS1
  replace hk := Kn.kp [1, 2, 3, 24] hk
  simp only [HV.of, List.map, List.getD_cons_zero, List.getD_cons_succ, Nat.zero_add, Nat.reduceAdd] at hk
  generalize us 13 = v18 at hS hk
  generalize us 16 = v21 at hS hk
  rw [hb3] at hk
  obtain ⟨aov18, cv18, hshp, _⟩ := (OwT.rd (hS.rd (A := OwT 9 _ v18) (by (repeat (first | exact At.here | apply At.there))))).shape; subst hshp
  obtain ⟨aov21, cv21, hshp, _⟩ := (OwT.rd (hS.rd (A := OwT 75 _ v21) (by (repeat (first | exact At.here | apply At.there))))).shape; subst hshp
  (repeat' (first | (show wpListIn _ _ _ _ _ (_ :: _) _ _; first | (refine wx1 ?_; clear hk a; intro a hk) | (refine wx2 ?_ ?_ <;> (intro hp; clear hk a; intro a hk)) | (refine wx3 ?_; clear hk hS a; intro w b hS a hk) | (refine wx4 ?_; clear hk hS a; intro w hS a hk) | (refine wx5 ?_; clear hk hS a; intro w v hS a hk) | fail) | refine wx0 ?_ | (refine s_end hk ?_; clear hk a; intro a hk) | fail))
  replace hS := hS.nilT 73 PrS
  replace hk := Kn.kp [1, 2, 3, 4] hk
  refine wp_for 4 (fun i _ => [(4, .int .i64 (i : Int))]) (fun i v => [OwT 73 (fewA al i) (.slice v.1 i v.2), pts b3 [.int .i64 k, .string (cutF tag 20), .string (cutF key 20), .string (cutF text 70), .slice aov18 (few03 cl 4).length cv18, .slice v.1 i v.2, .slice aov21 (few04 sl 4).length cv21, .int .i64 e, .int .i64 lv, .int .i64 m, .int .i64 d, .bool p, .bool q, .slice none 0 0] 42, OwT 75 (few04 sl 4) (.slice aov21 (few04 sl 4).length cv21), OwT 9 (few03 cl 4) (.slice aov18 (few03 cl 4).length cv18), pts b2 [.int .i64 0, .string ⟨#[]⟩, .string ⟨#[]⟩, .string ⟨#[]⟩, .slice none 0 0, .slice none 0 0, .slice none 0 0, .int .i64 0, .int .i64 0, .int .i64 0, .int .i64 0, .bool false, .bool false, .slice none 0 0] 42, pts b1 [.int .i64 dp, .int .i64 k, .string tag, .string key, .string text, .slice a1 cl.length m1, .slice a2 al.length m2, .slice a3 sl.length m3, .int .i64 e, .int .i64 lv, .int .i64 m, .int .i64 d, .bool p, .bool q] 84]) (fun i _ => i ≤ al.length) ((none, 0) : Option Addr × Nat) hk (by repeat (first | exact trivial | refine ⟨rfl, ?_⟩)) hS.sb (by omega) ?_
  clear hk hS a
  rintro i ⟨ao, c⟩ a w hi hk hS hF
  have hlen := fewA_len al i
  have hv1 := hS.rdT c2
  simp only at hS hk
  by_cases hll : i < al.length
  · by_cases hlt : i < 4
    · obtain ⟨⟨nm, val⟩, hx⟩ : ∃ x, al[i]? = some x := ⟨_, List.getElem?_eq_getElem hll⟩
      have hst := fewA_snoc hx
      have hl1 : (fewA al (i + 1)).length = i + 1 := by rw [fewA_len]; omega
      (repeat' (first | (show wpListIn _ _ _ _ _ (_ :: _) _ _; first | (refine wx1 ?_; clear hk a; intro a hk) | (refine wx2 ?_ ?_ <;> (intro hp; clear hk a; intro a hk)) | (refine wx3 ?_; clear hk hS a; intro w b hS a hk) | (refine wx4 ?_; clear hk hS a; intro w hS a hk) | (refine wx5 ?_; clear hk hS a; intro w v hS a hk) | fail) | refine wx0 ?_ | (refine s_end hk ?_; clear hk a; intro a hk) | fail))
      refine wp_drawn 18 mixed (by kernel_rfl) hk hS ?_; clear hk hS a
      (repeat' (first | (show ObxE _ _ _ _ _ _ _ _ _ (_ :: _) _ _ _; first | refine ox1 ?_ | (refine ox2 ?_ ?_ <;> intro hp) | fail) | fail))
      refine' obe_val (fun us a w hk hd hS => ?_) ?_; rotate_left; focus (have hk := Kn.vw hk (by repeat (first | exact VW.nil | apply VW.val rfl | apply VW.base rfl rfl | apply VW.res rfl | apply VW.upd rfl | apply VW.cpy rfl | apply VW.dep rfl | apply VW.fn rfl | apply VW.lnd rfl | apply VW.tak rfl)); exact g_callO hk (hf := by kernel_rfl) (hc := cut_any _ 20 _) (h := fun _ _ h => h))
      (repeat' (first | (show ObxE _ _ _ _ _ _ _ _ _ (_ :: _) _ _ _; first | refine ox1 ?_ | (refine ox2 ?_ ?_ <;> intro hp) | fail) | fail))
      refine' obe_val (fun us a w hk hd hS => ?_) ?_; rotate_left; focus (have hk := Kn.vw hk (by repeat (first | exact VW.nil | apply VW.val rfl | apply VW.base rfl rfl | apply VW.res rfl | apply VW.upd rfl | apply VW.cpy rfl | apply VW.dep rfl | apply VW.fn rfl | apply VW.lnd rfl | apply VW.tak rfl)); exact g_callO hk (hf := by kernel_rfl) (hc := cut_any _ 40 _) (h := fun _ _ h => h))
      (repeat' (first | (show ObxE _ _ _ _ _ _ _ _ _ (_ :: _) _ _ _; first | refine ox1 ?_ | (refine ox2 ?_ ?_ <;> intro hp) | fail) | fail))
      refine' obe_res (fun us a w hk hd hS => ?_) ?_; rotate_left; focus (have hk := Kn.vw hk (by repeat (first | exact VW.nil | apply VW.val rfl | apply VW.base rfl rfl | apply VW.res rfl | apply VW.upd rfl | apply VW.cpy rfl | apply VW.dep rfl | apply VW.fn rfl | apply VW.lnd rfl | apply VW.tak rfl)); exact v_bsT (xs := [((cutF nm 20, cutF val 40) : PrS)]) (m := 0) hk (hT := eT rfl) (hE := zT rfl) (hz := oT rfl))
      refine obe_nil ⟨rfl, ?_⟩; intro us a w hk hS
      simp only [resE] at hS
      (repeat' (first | (show wpListIn _ _ _ _ _ (_ :: _) _ _; first | (refine wx1 ?_; clear hk a; intro a hk) | (refine wx2 ?_ ?_ <;> (intro hp; clear hk a; intro a hk)) | (refine wx3 ?_; clear hk hS a; intro w b hS a hk) | (refine wx4 ?_; clear hk hS a; intro w hS a hk) | (refine wx5 ?_; clear hk hS a; intro w v hS a hk) | fail) | refine wx0 ?_ | (refine s_end hk ?_; clear hk a; intro a hk) | fail))
      rw [← hst] at hS
      rename Value => vn
      obtain ⟨aovn, cvn, hshp, _⟩ := (OwT.rd (hS.rd (A := OwT 73 _ vn) (by (repeat (first | exact At.here | apply At.there))))).shape; subst hshp
      rw [hl1] at hS hk
      replace hk := Kn.kp [1, 2, 3, 4, 54, 55] hk
      (repeat' (first | (show wpListIn _ _ _ _ _ (_ :: _) _ _; first | (refine wx1 ?_; clear hk a; intro a hk) | (refine wx2 ?_ ?_ <;> (intro hp; clear hk a; intro a hk)) | (refine wx3 ?_; clear hk hS a; intro w b hS a hk) | (refine wx4 ?_; clear hk hS a; intro w hS a hk) | (refine wx5 ?_; clear hk hS a; intro w v hS a hk) | fail) | refine wx0 ?_ | (refine s_end hk ?_; clear hk a; intro a hk) | fail))
      exact ⟨hlt, (aovn, cvn), hk.sd, hS.sb, by omega⟩
    · have hin : i = 4 := by omega
      subst hin
      have e4 : True := trivial
      (repeat' (first | (show wpListIn _ _ _ _ _ (_ :: _) _ _; first | (refine wx1 ?_; clear hk a; intro a hk) | (refine wx2 ?_ ?_ <;> (intro hp; clear hk a; intro a hk)) | (refine wx3 ?_; clear hk hS a; intro w b hS a hk) | (refine wx4 ?_; clear hk hS a; intro w hS a hk) | (refine wx5 ?_; clear hk hS a; intro w v hS a hk) | fail) | refine wx0 ?_ | (refine s_end hk ?_; clear hk a; intro a hk) | fail))
      refine done1R hk rfl (.str hS (hT := aT rfl) (hs := zT rfl)) (h := ?_)
      exact treeH.of (h := (k, cutF tag 20, cutF key 20, cutF text 70, ⟨aov18, (few03 cl 4).length, cv18⟩, ⟨ao, 4, c⟩, ⟨aov21, (few04 sl 4).length, cv21⟩, (e, lv, m, d, p, q), ⟨none, 0, 0⟩)) (treeR.of (A1 := OwT 9 (few03 cl 4) (.slice aov18 (few03 cl 4).length cv18)) (A2 := OwT 73 (fewA al 4) (.slice ao 4 c)) (A3 := OwT 75 (few04 sl 4) (.slice aov21 (few04 sl 4).length cv21)) (A4 := OwT 42 ([] : List NdH) (.slice none 0 0)) (H := []) (kids := []) ((forR.nil (hS.nilT 42 NdH)).sub (by (repeat (first | exact Sub.nil | exact Sub.refl | refine Sub.cons (by (repeat (first | exact At.here | apply At.there))) ?_)))))
  · have e4 : fewA al i = fewA al 4 := by simp only [fewA]; rw [List.take_of_length_le (by omega), List.take_of_length_le (by omega)]
    rw [e4] at hS
    (repeat' (first | (show wpListIn _ _ _ _ _ (_ :: _) _ _; first | (refine wx1 ?_; clear hk a; intro a hk) | (refine wx2 ?_ ?_ <;> (intro hp; clear hk a; intro a hk)) | (refine wx3 ?_; clear hk hS a; intro w b hS a hk) | (refine wx4 ?_; clear hk hS a; intro w hS a hk) | (refine wx5 ?_; clear hk hS a; intro w v hS a hk) | fail) | refine wx0 ?_ | (refine s_end hk ?_; clear hk a; intro a hk) | fail))
    refine done1R hk rfl (.str hS (hT := aT rfl) (hs := zT rfl)) (h := ?_)
    exact treeH.of (h := (k, cutF tag 20, cutF key 20, cutF text 70, ⟨aov18, (few03 cl 4).length, cv18⟩, ⟨ao, i, c⟩, ⟨aov21, (few04 sl 4).length, cv21⟩, (e, lv, m, d, p, q), ⟨none, 0, 0⟩)) (treeR.of (A1 := OwT 9 (few03 cl 4) (.slice aov18 (few03 cl 4).length cv18)) (A2 := OwT 73 (fewA al 4) (.slice ao i c)) (A3 := OwT 75 (few04 sl 4) (.slice aov21 (few04 sl 4).length cv21)) (A4 := OwT 42 ([] : List NdH) (.slice none 0 0)) (H := []) (kids := []) ((forR.nil (hS.nilT 42 NdH)).sub (by (repeat (first | exact Sub.nil | exact Sub.refl | refine Sub.cons (by (repeat (first | exact At.here | apply At.there))) ?_)))))
end Go.Proofs.YtipdgobplfkipaaGreatDoor
namespace Go.Proofs.YtipdgobplfkipaaGreatDoor
open Go.RowKit
set_option maxRecDepth 100000
attribute [local irreducible] Go.Code.wpIn Go.wpListIn Go.Calls Gives Go.Exit.then Go.Exit.inBlock Done ObxE

def in64 (x : Int) : Prop := -9223372036854775808 ≤ x ∧ x ≤ 9223372036854775807
def FlR (w : World) (h : FlH) : Prop := ∃ (dp k : Int) (tag key text : ByteArray) (cl : List ByteArray) (al : List (ByteArray × ByteArray)) (sl : List (ByteArray × Int)) (e lv m d : Int) (p q : Bool) (a1 a2 a3 : Option Addr) (m1 m2 m3 : Nat),
  h = (dp, k, tag, key, text, ⟨a1, cl.length, m1⟩, ⟨a2, al.length, m2⟩, ⟨a3, sl.length, m3⟩, (e, lv, m, d, p, q)) ∧ SlT cl (.slice a1 cl.length m1) w ∧ SlT al (.slice a2 al.length m2) w ∧ SlT sl (.slice a3 sl.length m3) w ∧
  in64 dp ∧ in64 k ∧ in64 e ∧ in64 lv ∧ in64 m ∧ in64 d ∧ ∀ x ∈ sl, in64 x.2

def okN (k : Int) (tag key text : ByteArray) (cl : List ByteArray) (al : List (ByteArray × ByteArray)) (sl : List (ByteArray × Int)) (o : Opt) : Prop :=
  in64 k ∧ tag.size ≤ 20 ∧ key.size ≤ 20 ∧ text.size ≤ 70 ∧ cl.length ≤ 4 ∧ (∀ c ∈ cl, c.size ≤ 20) ∧ al.length ≤ 4 ∧ (∀ x ∈ al, x.1.size ≤ 20 ∧ x.2.size ≤ 40) ∧ sl.length ≤ 4 ∧ (∀ x ∈ sl, x.1.size ≤ 20 ∧ in64 x.2) ∧
  in64 o.1 ∧ in64 o.2.1 ∧ in64 o.2.2.1 ∧ in64 o.2.2.2.1
inductive Small : Tree → Prop where
  | mk {k : Int} {tag key text : ByteArray} {cl : List ByteArray} {al : List (ByteArray × ByteArray)} {sl : List (ByteArray × Int)} {o : Opt} {kids : List Tree} (h : okN k tag key text cl al sl o) (hk : ∀ t ∈ kids, Small t) : Small (.mk k tag key text cl al sl o kids)
mutual
def cnt : Tree → Nat
  | .mk _ _ _ _ _ _ _ _ kids => cntL kids + 1
def cntL : List Tree → Nat
  | [] => 0
  | t :: ts => cnt t + cntL ts
end
theorem cntL_app : ∀ (ts us : List Tree), cntL (ts ++ us) = cntL ts + cntL us
  | [], us => by simp [cntL]
  | t :: ts, us => by simp only [List.cons_append, cntL, cntL_app ts us]; omega
theorem cnt_pos (t : Tree) : 1 ≤ cnt t := by cases t; simp only [cnt]; omega
theorem cntL_len : ∀ ts : List Tree, ts.length ≤ cntL ts
  | [] => by simp
  | t :: ts => by have := cntL_len ts; have := cnt_pos t; simp only [List.length_cons, cntL]; omega
theorem cntL_mem : ∀ {ts : List Tree} {t : Tree}, t ∈ ts → cnt t ≤ cntL ts
  | t :: ts, u, h => by
    rcases List.mem_cons.1 h with rfl | h
    · simp only [cntL]; omega
    · have := cntL_mem h; simp only [cntL]; omega

theorem okN_node {k : Int} {tag key text : ByteArray} {cl : List ByteArray} {al : List (ByteArray × ByteArray)} {sl : List (ByteArray × Int)} {e lv m d : Int} {p q : Bool} (hk : in64 k) (he : in64 e) (hl : in64 lv) (hm : in64 m) (hd : in64 d) (hs : ∀ x ∈ sl, in64 x.2) :
    okN k (cutF tag 20) (cutF key 20) (cutF text 70) (few03 cl 4) (fewA al 4) (few04 sl 4) (e, lv, m, d, p, q) := by
  refine ⟨hk, cutF_len _ _, cutF_len _ _, cutF_len _ _, by rw [few03_len]; omega, fun c hc => ?_, by rw [fewA_len]; omega, fun x hx => ?_, by rw [few04_len]; omega, fun x hx => ?_, he, hl, hm, hd⟩
  · obtain ⟨y, _, rfl⟩ := List.mem_map.1 hc; exact cutF_len _ _
  · obtain ⟨y, _, rfl⟩ := List.mem_map.1 hx; exact ⟨cutF_len _ _, cutF_len _ _⟩
  · obtain ⟨y, hy, rfl⟩ := List.mem_map.1 hx; exact ⟨cutF_len _ _, hs y (List.mem_of_mem_take hy)⟩

theorem FlR.frz {w w' : World} {h : FlH} (hr : FlR w h) (hf : Frz w w') : FlR w' h := by
  obtain ⟨dp, k, tag, key, text, cl, al, sl, e, lv, m, d, p, q, a1, a2, a3, m1, m2, m3, e0, c1, c2, c3, hr⟩ := hr
  exact ⟨dp, k, tag, key, text, cl, al, sl, e, lv, m, d, p, q, a1, a2, a3, m1, m2, m3, e0, c1.frz hf, c2.frz hf, c3.frz hf, hr⟩
structure KS where
  at_ : Nat
  ts : List Tree
  H : List NdH
  a : Option Addr
  c : Nat

set_option maxHeartbeats 4000000 in
theorem kids07_any (F : List FlH) (v : Value) (hFl : F.length ≤ 1000) : ∀ (n at_ : Nat) (deep : Int) (w0 : World), F.length - at_ < n → at_ ≤ F.length → SlT F v w0 → (∀ h ∈ F, FlR w0 h) →
    Calls Tryz.prog 35 #[v, .int .i64 (at_ : Int), .int .i64 deep] w0 (Ret fun u w => ∃ (ts : List Tree) (H : List NdH) (at' : Nat) (ak : Option Addr) (ck : Nat), u = .tuple #[.slice ak H.length ck, .int .i64 (at' : Int)] ∧ at_ ≤ at' ∧ at' ≤ F.length ∧ at_ + cntL ts ≤ at' ∧ (∀ t ∈ ts, Small t) ∧
      St w0 [forR ts H, OwT 42 H (.slice ak H.length ck)] w)
  | 0, _, _, _, hn, _, _, _ => by omega
  | n + 1, at_, deep, w0, hn, hat, hv, hR => by
    have ih := kids07_any F v hFl n
    refine enter Tryz.func35 rfl Tryz.ntmps35 rfl (fun a hk => ?_); have hS := St.refl w0
    (repeat' (first | (show wpListIn _ _ _ _ _ (_ :: _) _ _; first | (refine wx1 ?_; clear hk a; intro a hk) | (refine wx2 ?_ ?_ <;> (intro hp; clear hk a; intro a hk)) | (refine wx3 ?_; clear hk hS a; intro w b hS a hk) | (refine wx4 ?_; clear hk hS a; intro w hS a hk) | (refine wx5 ?_; clear hk hS a; intro w v hS a hk) | fail) | refine wx0 ?_ | (refine s_end hk ?_; clear hk a; intro a hk) | fail))
    replace hS := forR.nil (hS.nilT 42 NdH)
    replace hk := Kn.kp [0, 1, 2, 8] hk
    refine wp_while (fun x : KS => [(1, .int .i64 (x.at_ : Int)), (8, .slice x.a x.H.length x.c)]) (fun x => [forR x.ts x.H, OwT 42 x.H (.slice x.a x.H.length x.c)])
      (fun x => at_ ≤ x.at_ ∧ x.at_ ≤ F.length ∧ at_ + cntL x.ts ≤ x.at_ ∧ ∀ t ∈ x.ts, Small t) (fun x => F.length - x.at_) ⟨at_, [], [], none, 0⟩ hk (by repeat (first | exact trivial | refine ⟨rfl, ?_⟩)) hS.sb ⟨Nat.le_refl _, hat, by simp [cntL], fun t h => by cases h⟩ ?_
    clear hk hS a
    rintro ⟨at1, ts, H, ak, ck⟩ a w hk hS ⟨g1, g2, g3, g4⟩
    simp only at hk hS g1 g2 g3 g4
    have hv1 := hS.rdT hv
    have hFH := hS.foR .here
    have hHl : H.length = ts.length := hFH.1
    have htl := cntL_len ts
    by_cases hlt : at1 < F.length
    · obtain ⟨x, hx⟩ : ∃ x, F[at1]? = some x := ⟨_, List.getElem?_eq_getElem hlt⟩
      obtain ⟨dp, k, tag, key, text, cl, al, sl, e, lv, m, d, p, q, a1, a2, a3, m1, m2, m3, rfl, c1, c2, c3, b1, b2, b3, b4, b5, b6, b7⟩ := hR x (List.mem_of_getElem? hx)
      by_cases hdp : deep < dp
      · (repeat' (first | (show wpListIn _ _ _ _ _ (_ :: _) _ _; first | (refine wx1 ?_; clear hk a; intro a hk) | (refine wx2 ?_ ?_ <;> (intro hp; clear hk a; intro a hk)) | (refine wx3 ?_; clear hk hS a; intro w b hS a hk) | (refine wx4 ?_; clear hk hS a; intro w hS a hk) | (refine wx5 ?_; clear hk hS a; intro w v hS a hk) | fail) | refine wx0 ?_ | (refine s_end hk ?_; clear hk a; intro a hk) | fail))
        refine sg hk (g_callO hk (hf := by kernel_rfl) (hc := node07_any dp k tag key text cl al sl e lv m d p q a1 a2 a3 m1 m2 m3 _ (hS.rdT c1) (hS.rdT c2) (hS.rdT c3)) (h := ?_)); clear hk a; rintro vn w hS1 a hk; replace hS := hS.call hS1; clear hS1
        rw [List.cons_append, List.nil_append] at hS
        obtain ⟨hd1, rfl, hS1⟩ := St.tree hS .here
        clear hS
        have hS := hS1
        clear hS1
        obtain ⟨k0, tag0, key0, text0, cl0, al0, sl0, e0, lv0, m0, d0, p0, q0, kids0, A1, M1, A2, M2, A3, M3, A4, M4, H0, he, rfl, _⟩ := (hS.trR .here).split
        have hok := okN_node (tag := tag) (key := key) (text := text) (cl := cl) (al := al) (p := p) (q := q) b2 b3 b4 b5 b6 b7
        unfold nodeF at he hS
        injection he with q1 q2 q3 q4 q5 q6 q7 q8 q9
        rw [q1, q2, q3, q4, q5, q6, q7, q8, q9] at hS
        rw [q1, q2, q3, q4, q5, q6, q7, q8] at hok
        clear q1 q2 q3 q4 q5 q6 q7 q8 q9
        (repeat' (first | (show wpListIn _ _ _ _ _ (_ :: _) _ _; first | (refine wx1 ?_; clear hk a; intro a hk) | (refine wx2 ?_ ?_ <;> (intro hp; clear hk a; intro a hk)) | (refine wx3 ?_; clear hk hS a; intro w b hS a hk) | (refine wx4 ?_; clear hk hS a; intro w hS a hk) | (refine wx5 ?_; clear hk hS a; intro w v hS a hk) | fail) | refine wx0 ?_ | (refine s_end hk ?_; clear hk a; intro a hk) | fail))
        refine sg hk (g_callO hk (hf := by kernel_rfl) (hc := ih (at1 + 1) dp _ (by omega) (by omega) (hS.rdT hv) (fun h hh => (hR h hh).frz hS.frz)) (h := ?_)); clear hk a; rintro vr w ⟨ts2, H2, at2, ak2, ck2, rfl, r1, r2, r3, r4, hS1⟩ a hk; replace hS := hS.call hS1; clear hS1
        rw [List.cons_append, List.cons_append, List.nil_append] at hS
        (repeat' (first | (show wpListIn _ _ _ _ _ (_ :: _) _ _; first | (refine wx1 ?_; clear hk a; intro a hk) | (refine wx2 ?_ ?_ <;> (intro hp; clear hk a; intro a hk)) | (refine wx3 ?_; clear hk hS a; intro w b hS a hk) | (refine wx4 ?_; clear hk hS a; intro w hS a hk) | (refine wx5 ?_; clear hk hS a; intro w v hS a hk) | fail) | refine wx0 ?_ | (refine s_end hk ?_; clear hk a; intro a hk) | fail))
        refine sg hk (g_bsT (xs := [((k0, tag0, key0, text0, ⟨A1, cl0.length, M1⟩, ⟨A2, al0.length, M2⟩, ⟨A3, sl0.length, M3⟩, (e0, lv0, m0, d0, p0, q0), ⟨ak2, H2.length, ck2⟩) : NdH)]) (m := 0) hk hS ?_ (hT := eT rfl) (hE := zT rfl) (hz := oT rfl)); clear hk hS a; intro w ve hS a hk
        (repeat' (first | (show wpListIn _ _ _ _ _ (_ :: _) _ _; first | (refine wx1 ?_; clear hk a; intro a hk) | (refine wx2 ?_ ?_ <;> (intro hp; clear hk a; intro a hk)) | (refine wx3 ?_; clear hk hS a; intro w b hS a hk) | (refine wx4 ?_; clear hk hS a; intro w hS a hk) | (refine wx5 ?_; clear hk hS a; intro w v hS a hk) | fail) | refine wx0 ?_ | (refine s_end hk ?_; clear hk a; intro a hk) | fail))
        rename Value => vn
        obtain ⟨aovn, cvn, hshp, _⟩ := (OwT.rd (hS.rd (A := OwT 42 _ vn) (by (repeat (first | exact At.here | apply At.there))))).shape; subst hshp
        have hS1 := treeR.kids (k := k0) (tag := tag0) (key := key0) (text := text0) (cl := cl0) (at_ := al0) (st := sl0) (o := (e0, lv0, m0, d0, p0, q0)) (hc := ⟨A1, cl0.length, M1⟩) (ha := ⟨A2, al0.length, M2⟩) (hs := ⟨A3, sl0.length, M3⟩) (hk0 := ⟨A4, H0.length, M4⟩) (kids := ts2) (kids0 := kids0) (E := 42) (hk := ⟨ak2, H2.length, ck2⟩) (H := H2)
          (L := [forR ts H, OwT 42 (H ++ [((k0, tag0, key0, text0, ⟨A1, cl0.length, M1⟩, ⟨A2, al0.length, M2⟩, ⟨A3, sl0.length, M3⟩, (e0, lv0, m0, d0, p0, q0), ⟨ak2, H2.length, ck2⟩) : NdH)]) (.slice aovn (H ++ [((k0, tag0, key0, text0, ⟨A1, cl0.length, M1⟩, ⟨A2, al0.length, M2⟩, ⟨A3, sl0.length, M3⟩, (e0, lv0, m0, d0, p0, q0), ⟨ak2, H2.length, ck2⟩) : NdH)]).length cvn)]) (hS.sub (by (repeat (first | exact Sub.nil | exact Sub.refl | refine Sub.cons (by (repeat (first | exact At.here | apply At.there))) ?_))))
        have hS2 := forR.snoc hS1
        refine ⟨⟨at2, ts ++ [.mk k0 tag0 key0 text0 cl0 al0 sl0 (e0, lv0, m0, d0, p0, q0) ts2], H ++ [((k0, tag0, key0, text0, ⟨A1, cl0.length, M1⟩, ⟨A2, al0.length, M2⟩, ⟨A3, sl0.length, M3⟩, (e0, lv0, m0, d0, p0, q0), ⟨ak2, H2.length, ck2⟩) : NdH)], aovn, cvn⟩, by show F.length - at2 < F.length - at1; omega, hk.sd, hS2, by show at_ ≤ at2; omega, r2, ?_, fun t ht => ?_⟩
        · show at_ + cntL (ts ++ [_]) ≤ at2
          rw [cntL_app]
          simp only [cntL, cnt]
          omega
        · rcases List.mem_append.1 ht with h | h
          · exact g4 t h
          · rw [List.mem_singleton] at h
            subst h
            exact .mk hok r4
      · (repeat' (first | (show wpListIn _ _ _ _ _ (_ :: _) _ _; first | (refine wx1 ?_; clear hk a; intro a hk) | (refine wx2 ?_ ?_ <;> (intro hp; clear hk a; intro a hk)) | (refine wx3 ?_; clear hk hS a; intro w b hS a hk) | (refine wx4 ?_; clear hk hS a; intro w hS a hk) | (refine wx5 ?_; clear hk hS a; intro w v hS a hk) | fail) | refine wx0 ?_ | (refine s_end hk ?_; clear hk a; intro a hk) | fail))
        exact done2 hk (h := ⟨ts, H, at1, ak, ck, rfl, g1, g2, g3, g4, hS⟩)
    · (repeat' (first | (show wpListIn _ _ _ _ _ (_ :: _) _ _; first | (refine wx1 ?_; clear hk a; intro a hk) | (refine wx2 ?_ ?_ <;> (intro hp; clear hk a; intro a hk)) | (refine wx3 ?_; clear hk hS a; intro w b hS a hk) | (refine wx4 ?_; clear hk hS a; intro w hS a hk) | (refine wx5 ?_; clear hk hS a; intro w v hS a hk) | fail) | refine wx0 ?_ | (refine s_end hk ?_; clear hk a; intro a hk) | fail))
      exact done2 hk (h := ⟨ts, H, at1, ak, ck, rfl, g1, g2, g3, g4, hS⟩)
end Go.Proofs.YtipdgobplfkipaaGreatDoor
namespace Go.Proofs.YtipdgobplfkipaaGreatDoor
open Go.RowKit

def Tree.kind : Tree → Int
  | .mk k _ _ _ _ _ _ _ _ => k
def Tree.text : Tree → ByteArray
  | .mk _ _ _ x _ _ _ _ _ => x
def Tree.plus : Tree → ByteArray → Tree
  | .mk k tag key text cl al sl o ks, x => .mk k tag key (text ++ x) cl al sl o ks
def Tree.void (t : Tree) : Prop := t.kind = 1 ∧ t.text = ⟨#[]⟩
instance (t : Tree) : Decidable t.void := by unfold Tree.void; exact inferInstance

def mrgS (out : List Tree) (t : Tree) : List Tree :=
  match out.getLast? with
  | some u => if t.kind = 1 ∧ u.kind = 1 then out.dropLast ++ [u.plus t.text] else out ++ [t]
  | none => out ++ [t]
def mrg (l : List Tree) : List Tree := l.foldl mrgS []
theorem mrg_snoc (l : List Tree) (t : Tree) : mrg (l ++ [t]) = mrgS (mrg l) t := by simp [mrg]

noncomputable section
mutual
def nrm : Tree → Tree
  | .mk k tag key text cl al sl o kids => .mk k tag key text (clnC cl) (snapF nmS al) (snapF nmI sl) o (mrg (nrmL kids))
def nrmL : List Tree → List Tree
  | [] => []
  | t :: ts => if t.void then nrmL ts else nrm t :: nrmL ts
end
end
theorem nrmL_app : ∀ (ts us : List Tree), nrmL (ts ++ us) = nrmL ts ++ nrmL us
  | [], us => by simp [nrmL]
  | t :: ts, us => by
    rw [List.cons_append, nrmL, nrmL, nrmL_app ts us]
    split
    · rfl
    · rfl
theorem nrmL_snoc (ts : List Tree) (t : Tree) : nrmL (ts ++ [t]) = if t.void then nrmL ts else nrmL ts ++ [nrm t] := by
  rw [nrmL_app]
  by_cases h : t.void
  · simp [nrmL, h]
  · simp [nrmL, h]
theorem nrm_kind (t : Tree) : (nrm t).kind = t.kind := by cases t; simp [nrm, Tree.kind]
theorem nrm_text (t : Tree) : (nrm t).text = t.text := by cases t; simp [nrm, Tree.text]
theorem plus_kind (t : Tree) (x : ByteArray) : (t.plus x).kind = t.kind := by cases t; rfl
theorem plus_text (t : Tree) (x : ByteArray) : (t.plus x).text = t.text ++ x := by cases t; rfl
theorem nrmL_len (ts : List Tree) : (nrmL ts).length ≤ ts.length := by
  induction ts with
  | nil => simp [nrmL]
  | cons t ts ih =>
    rw [nrmL]
    split
    · simp; omega
    · simp; omega
def txtL (l : List Tree) : Nat := l.foldl (fun n t => n + t.text.size) 0
theorem txtL_snoc (l : List Tree) (t : Tree) : txtL (l ++ [t]) = txtL l + t.text.size := by simp [txtL]
theorem txtL_mem : ∀ {l : List Tree} {t : Tree}, t ∈ l → t.text.size ≤ txtL l := by
  intro l t h
  have : ∀ r : List Tree, t ∈ r.reverse → t.text.size ≤ txtL r.reverse := by
    intro r
    induction r with
    | nil => intro h; simp at h
    | cons u r ih =>
      intro h
      rw [List.reverse_cons] at h ⊢
      rw [txtL_snoc]
      rcases List.mem_append.1 h with h | h
      · have := ih h; omega
      · rw [List.mem_singleton] at h; subst h; omega
  have h2 := this l.reverse (by simpa using h)
  simpa using h2
theorem mrgS_txt (out : List Tree) (t : Tree) : txtL (mrgS out t) = txtL out + t.text.size := by
  unfold mrgS
  split
  · rename_i u hu
    split
    · rw [txtL_snoc, plus_text, ByteArray.size_append]
      have e : out = out.dropLast ++ [u] := by
        have := List.dropLast_concat_getLast (l := out) (by intro e; subst e; simp at hu)
        rw [List.getLast?_eq_some_getLast (by intro e; subst e; simp at hu)] at hu
        rw [Option.some.inj hu] at this
        exact this.symm
      have e2 : txtL out = txtL out.dropLast + u.text.size := by
        conv => lhs; rw [e]
        rw [txtL_snoc]
      omega
    · rw [txtL_snoc]
  · rw [txtL_snoc]
theorem mrg_txt (l : List Tree) : txtL (mrg l) = txtL l := by
  have : ∀ r : List Tree, txtL (mrg r.reverse) = txtL r.reverse := by
    intro r
    induction r with
    | nil => rfl
    | cons u r ih => rw [List.reverse_cons, mrg_snoc, mrgS_txt, ih, txtL_snoc]
  have := this l.reverse
  simpa using this
theorem mrgS_len (out : List Tree) (t : Tree) : (mrgS out t).length ≤ out.length + 1 := by
  unfold mrgS
  split
  · split
    · simp
    · simp
  · simp
theorem mrg_last {l : List Tree} {j : Nat} {t : Tree} (h : l[j]? = some t) : ∃ M u, mrg (l.take (j + 1)) = M ++ [u] ∧ u.kind = t.kind := by
  rw [take_snoc h, mrg_snoc]
  unfold mrgS
  split
  · rename_i u hu
    split
    · rename_i hc
      exact ⟨_, _, rfl, by rw [plus_kind, hc.1, hc.2]⟩
    · exact ⟨_, _, rfl, rfl⟩
  · exact ⟨_, _, rfl, rfl⟩
theorem mrgS_app {M : List Tree} {u t : Tree} : mrgS (M ++ [u]) t = if t.kind = 1 ∧ u.kind = 1 then M ++ [u.plus t.text] else M ++ [u] ++ [t] := by
  simp [mrgS]
theorem txtL_take (l : List Tree) (i : Nat) : txtL (l.take i) ≤ txtL l := by
  have : ∀ (r : List Tree) (l : List Tree), txtL l ≤ txtL (l ++ r) := by
    intro r
    induction r with
    | nil => intro l; simp
    | cons u r ih =>
      intro l
      have := ih (l ++ [u])
      rw [txtL_snoc, List.append_assoc, List.singleton_append] at this
      omega
  have := this (l.drop i) (l.take i)
  rwa [List.take_append_drop] at this
theorem mrg_len (l : List Tree) : (mrg l).length ≤ l.length := by
  have : ∀ r : List Tree, (mrg r.reverse).length ≤ r.length := by
    intro r
    induction r with
    | nil => simp [mrg]
    | cons u r ih =>
      rw [List.reverse_cons, mrg_snoc, List.length_cons]
      have := mrgS_len (mrg r.reverse) u
      omega
  have := this l.reverse
  simpa using this

inductive Fit (X : Nat) : Tree → Prop
  | mk {k : Int} {tag key text : ByteArray} {cl : List ByteArray} {at_ : List (ByteArray × ByteArray)} {st : List (ByteArray × Int)} {o : Opt} {kids : List Tree}
    (h1 : cl.length ≤ 100) (h2 : at_.length ≤ 100) (h3 : st.length ≤ 100) (h4 : kids.length ≤ 1000) (h5 : text.size ≤ X) (h6 : ∀ t ∈ kids, Fit X t) : Fit X (.mk k tag key text cl at_ st o kids)
theorem Fit.fits {X : Nat} {t : Tree} (h : Fit X t) : Fits t := by
  induction h with
  | mk h1 h2 h3 h4 _ _ ih => exact .mk h1 h2 h3 h4 ih
theorem Fit.text {X : Nat} {t : Tree} (h : Fit X t) : t.text.size ≤ X := by cases h with | mk h1 h2 h3 h4 h5 _ => exact h5
theorem Fit.plus {X : Nat} {t : Tree} {x : ByteArray} (h : Fit X t) (hx : (t.plus x).text.size ≤ X) : Fit X (t.plus x) := by
  cases h with
  | mk h1 h2 h3 h4 h5 h6 => exact .mk h1 h2 h3 h4 hx h6
theorem last_split {α : Type} {l : List α} {u : α} (h : l.getLast? = some u) : l = l.dropLast ++ [u] := by
  have hne : l ≠ [] := by intro e; subst e; simp at h
  have := List.dropLast_concat_getLast hne
  rw [List.getLast?_eq_some_getLast hne] at h
  rw [Option.some.inj h] at this
  exact this.symm
theorem mrg_fit {X : Nat} (l : List Tree) (hl : ∀ t ∈ l, Fit X t) (hx : txtL l ≤ X) : ∀ u ∈ mrg l, Fit X u := by
  have : ∀ r : List Tree, (∀ t ∈ r, Fit X t) → txtL r.reverse ≤ X → ∀ u ∈ mrg r.reverse, Fit X u := by
    intro r
    induction r with
    | nil => intro _ _ u hu; simp [mrg] at hu
    | cons t r ih =>
      intro hr hx u hu
      have hs := mrgS_txt (mrg r.reverse) t
      have hT := mrg_txt r.reverse
      rw [List.reverse_cons, txtL_snoc] at hx
      have ih := ih (fun t ht => hr t (by simp [ht])) (by omega)
      have ht := hr t (by simp)
      rw [List.reverse_cons, mrg_snoc] at hu
      have hm := txtL_mem hu
      unfold mrgS at hu hs hm
      split at hu
      · rename_i u0 hu0
        have hu1 : u0 ∈ mrg r.reverse := by rw [last_split hu0]; simp
        split at hu
        · rename_i hc
          rcases List.mem_append.1 hu with h | h
          · exact ih u (by rw [last_split hu0]; simp [h])
          · rw [List.mem_singleton] at h
            subst h
            simp only [hu0, if_pos hc] at hm hs
            exact (ih u0 hu1).plus (by omega)
        · rcases List.mem_append.1 hu with h | h
          · exact ih u h
          · rw [List.mem_singleton] at h; subst h; exact ht
      · rcases List.mem_append.1 hu with h | h
        · exact ih u h
        · rw [List.mem_singleton] at h; subst h; exact ht
  have h := this l.reverse (by simpa using hl) (by simpa using hx)
  simpa using h
theorem nrmL_txt {X : Nat} : ∀ (ts : List Tree), (∀ t ∈ ts, Fit X t) → txtL (nrmL ts) ≤ X * ts.length
  | [], _ => by simp [nrmL, txtL]
  | t :: ts, h => by
    have ih := nrmL_txt ts (fun t ht => h t (by simp [ht]))
    have h1 := (h t (by simp)).text
    have e : ∀ (u : Tree) (l : List Tree), txtL (u :: l) = u.text.size + txtL l := by
      intro u l
      have : ∀ (l : List Tree) (n : Nat), l.foldl (fun n t => n + t.text.size) n = n + txtL l := by
        intro l
        induction l with
        | nil => intro n; simp [txtL]
        | cons x l ih =>
          intro n
          simp only [txtL, List.foldl_cons]
          rw [ih, ih (0 + x.text.size)]
          omega
      simp only [txtL, List.foldl_cons]
      rw [this l (0 + u.text.size)]
      simp only [txtL]
      omega
    rw [nrmL, List.length_cons, Nat.mul_add, Nat.mul_one]
    split
    · omega
    · rw [e, nrm_text]; omega
theorem nrmL_mem : ∀ {ts : List Tree} {u : Tree}, u ∈ nrmL ts → ∃ t ∈ ts, u = nrm t
  | t :: ts, u, h => by
    rw [nrmL] at h
    split at h
    · obtain ⟨x, hx, e⟩ := nrmL_mem h
      exact ⟨x, by simp [hx], e⟩
    · rcases List.mem_cons.1 h with h | h
      · exact ⟨t, by simp, h⟩
      · obtain ⟨x, hx, e⟩ := nrmL_mem h
        exact ⟨x, by simp [hx], e⟩
theorem clnC_le (l : List ByteArray) : (clnC l).length ≤ l.length := by have := clnC_len l l.length; rwa [List.take_length] at this
theorem Fit.nrm {X : Nat} {t : Tree} (h : Fit X t) : Fit (1001 * X) (nrm t) := by
  induction h with
  | @mk k tag key text cl al sl o kids h1 h2 h3 h4 h5 h6 ih =>
    have hc := clnC_le cl
    have hn1 := snap_len nmS al
    have hn2 := snap_len nmI sl
    have hl1 := mrg_len (nrmL kids)
    have hl2 := nrmL_len kids
    have ht := nrmL_txt kids h6
    have hm : X * kids.length ≤ X * 1000 := Nat.mul_le_mul_left X h4
    rw [Proofs.YtipdgobplfkipaaGreatDoor.nrm]
    refine .mk (by omega) (by omega) (by omega) (by omega) (by omega) (mrg_fit _ (fun u hu => ?_) (by omega))
    obtain ⟨t, ht, rfl⟩ := nrmL_mem hu
    exact ih t ht
theorem nrmL_fit {X : Nat} {ts : List Tree} (h : ∀ t ∈ ts, Fit X t) : ∀ t ∈ nrmL ts, Fit (1001 * X) t := fun u hu => by
  obtain ⟨t, ht, rfl⟩ := nrmL_mem hu
  exact (h t ht).nrm
theorem Small.fit {t : Tree} (h : Small t) (hc : cnt t ≤ 1000) : Fit 70 t := by
  induction h with
  | mk h hk ih =>
    obtain ⟨_, _, _, h4, h5, _, h6, _, h7, _⟩ := h
    rw [cnt] at hc
    refine .mk (by omega) (by omega) (by omega) ?_ h4 (fun t ht => ih t ht ?_)
    · have := cntL_len ‹List Tree›; omega
    · have := cntL_mem ht; omega
end Go.Proofs.YtipdgobplfkipaaGreatDoor
namespace Go.Proofs.YtipdgobplfkipaaGreatDoor
open Go.RowKit

def namesL (cl : List ByteArray) (al : List PrS) (sl : List PrI) : List ByteArray := cl ++ al.map (·.1) ++ sl.map (·.1)
def lasts (n : Int) : Bool := decide (0 ≤ n ∧ n ≤ 1000)
def optsB (o : Opt) (k : Int) : Bool :=
  if k = 3 then lasts o.1 && lasts o.2.1 && lasts o.2.2.1 && decide (o.2.2.2.1 = 0)
  else if k = 4 then lasts o.1 && lasts o.2.1 && decide (o.2.2.1 = 0) && !o.2.2.2.2.2 && decide (0 ≤ o.2.2.2.1 ∧ o.2.2.2.1 ≤ 2)
  else decide (o = (0, 0, 0, 0, false, false))
def bareB (tag key : ByteArray) (cl : List ByteArray) (al : List PrS) (sl : List PrI) (o : Opt) (kids : List Tree) : Bool :=
  decide (tag = ⟨#[]⟩ ∧ key = ⟨#[]⟩ ∧ cl.length + al.length + sl.length + kids.length = 0 ∧ o = (0, 0, 0, 0, false, false))
def valB (al : List PrS) (sl : List PrI) : Bool := al.all (fun x => valS x.2) && sl.all (fun x => decide (-2147483648 ≤ x.2 ∧ x.2 ≤ 2147483647))
def Tree.key : Tree → ByteArray
  | .mk _ _ y _ _ _ _ _ _ => y
def kidB (t : Tree) : Bool := decide (t.kind = 2 ∧ t.key ≠ ⟨#[]⟩)
def keptB (k : Int) (kids : List Tree) : Bool := decide (k = 2) || (kids.all kidB && (decide (k = 3) || decide (kids.length ≤ 1)))
def mayB (k : Int) (tag key text : ByteArray) (cl : List ByteArray) (al : List PrS) (sl : List PrI) (o : Opt) (kids : List Tree) : Bool :=
  if k = 1 then bareB tag key cl al sl o kids && txtS text
  else if k = 2 ∨ k = 3 ∨ k = 4 then decide (text = ⟨#[]⟩) && nameS tag && (namesL cl al sl).all nameS && (decide (key = ⟨#[]⟩) || keyS key) && valB al sl && optsB o k && keptB k kids
  else false
def cntK (c : ByteArray) (ks : List ByteArray) : Nat := ks.countP (fun x => decide (x = c))
def twcB (ks : List ByteArray) : Bool := ks.any (fun c => decide (c ≠ ⟨#[]⟩ ∧ 1 < cntK c ks))

mutual
def chkT : Tree → Int → Int → Int → Int × Int
  | .mk k tag key text cl al sl o kids, deep, depth, left =>
    if depth < deep then (7, left - 1)
    else if left - 1 < 0 then (8, left - 1)
    else if mayB k tag key text cl al sl o kids = false then (4, left - 1)
    else if (namesL cl al sl).any rsvS = true then (6, left - 1)
    else if twcB (kids.map Tree.key) = true then (5, left - 1)
    else chkL kids (deep + 1) depth (left - 1)
def chkL : List Tree → Int → Int → Int → Int × Int
  | [], _, _, left => (0, left)
  | t :: ts, deep, depth, left => if (chkT t deep depth left).1 = 0 then chkL ts deep depth (chkT t deep depth left).2 else chkT t deep depth left
end
inductive Siz (X : Nat) : Tree → Prop
  | mk {k : Int} {tag key text : ByteArray} {cl : List ByteArray} {al : List (ByteArray × ByteArray)} {sl : List (ByteArray × Int)} {o : Opt} {kids : List Tree}
    (h1 : tag.size ≤ X) (h2 : key.size ≤ X) (h3 : text.size ≤ X) (h4 : ∀ c ∈ cl, c.size ≤ X) (h5 : ∀ x ∈ al, x.1.size ≤ X ∧ x.2.size ≤ X) (h6 : ∀ x ∈ sl, x.1.size ≤ X) (h7 : ∀ t ∈ kids, Siz X t) : Siz X (.mk k tag key text cl al sl o kids)
end Go.Proofs.YtipdgobplfkipaaGreatDoor
namespace Go.Proofs.YtipdgobplfkipaaGreatDoor
open Go.RowKit

theorem itm_same (k : Int) (key : ByteArray) (cl : List ByteArray) (al : List (ByteArray × ByteArray)) (sl : List (ByteArray × Int)) (o : Opt) : itmW k key cl al sl o = itmB k key cl al sl o := by
  unfold itmW itmB optW keyW keyB kindW kndW durW durB modeW mdB apB mvB
  simp only [List.append_assoc]
  rfl
theorem foldW_bytes (x : ByteArray) : ∀ l : List ByteArray, (l.foldl addW x).data.toList = x.data.toList ++ wdL l := by
  intro l
  induction l generalizing x with
  | nil => simp [wdL]
  | cons y l ih =>
    rw [List.foldl_cons, ih]
    simp [wdL, addW, ByteArray.data_append]
theorem wdL_app (a b : List ByteArray) : wdL (a ++ b) = wdL a ++ wdL b := by simp [wdL]
theorem prn_bytes : ∀ (n : Nat) (t : Tree), SizeOf.sizeOf t < n → (prnT t).data.toList = prB t
  | 0, t, h => absurd h (by omega)
  | n + 1, .mk k tag key text cl al sl o kids, h => by
    rw [prnT, prB]
    by_cases hk : k = 1
    · rw [if_pos hk, if_pos hk]; simp [ByteArray.data_append]
    · rw [if_neg hk, if_neg hk]
      have hK : ∀ ts : List Tree, (∀ t ∈ ts, SizeOf.sizeOf t < n) → wdL (prnL ts) = prBL ts := by
        intro ts
        induction ts with
        | nil => exact fun _ => rfl
        | cons t ts ih =>
          intro hts
          have e := ih (fun x hx => hts x (.tail _ hx))
          have e2 := prn_bytes n t (hts t (.head _))
          rw [prnL, prBL, ← e2, ← e]
          rfl
      have c1 := hK kids (fun t ht => by
        have := List.sizeOf_lt_of_mem ht
        simp only [Tree.mk.sizeOf_spec] at h
        omega)
      have c2 := foldW_bytes tag (itmW k key cl al sl o ++ prnL kids)
      rw [wdL_app, c1, itm_same] at c2
      rw [itm_same, ByteArray.data_append, ByteArray.data_append]
      simp only [Array.toList_append]
      rw [c2]
      simp
theorem wdL_len (l : List ByteArray) (X : Nat) (h : ∀ w ∈ l, w.size + 1 ≤ X) : (wdL l).length ≤ X * l.length := by
  induction l with
  | nil => simp [wdL]
  | cons w l ih =>
    have h1 := h w (.head _)
    have h2 := ih (fun x hx => h x (.tail _ hx))
    have e : (wdL (w :: l)).length = w.size + 1 + (wdL l).length := by
      simp [wdL]; omega
    rw [e, List.length_cons, Nat.mul_succ]
    omega
theorem wd_opt {l : List ByteArray} {X : Nat} (h1 : l.length ≤ 1) (h : ∀ w ∈ l, w.size + 1 ≤ X) : (wdL l).length ≤ X :=
  Nat.le_trans (wdL_len l X h) (by have := Nat.mul_le_mul_left X h1; omega)
theorem itB_le {n : Int} (h : in64 n) : (itB n).size ≤ 21 := itoR_size h
theorem itm_len {k : Int} {tag key text : ByteArray} {cl : List ByteArray} {al : List (ByteArray × ByteArray)} {sl : List (ByteArray × Int)} {o : Opt} (h : okN k tag key text cl al sl o) : (wdL (itmB k key cl (snapF nmS al) (snapF nmI sl) o)).length ≤ 660 := by
  obtain ⟨-, -, k2, -, c1, c2, a1, a2, s1, s2, o1, o2, o3, -⟩ := h
  have hA := snap_len nmS al
  have hS := snap_len nmI sl
  have e35 : ByteArray.size ⟨#[35]⟩ = 1 := rfl
  have e46 : ByteArray.size ⟨#[46]⟩ = 1 := rfl
  have e61 : ByteArray.size ⟨#[61]⟩ = 1 := rfl
  have e64 : ByteArray.size ⟨#[64]⟩ = 1 := rfl
  have p1 : (wdL (keyB key)).length ≤ 22 := by
    refine wd_opt (by unfold keyB; split <;> simp) (fun w hw => ?_)
    unfold keyB at hw
    split at hw
    · cases hw
    · rw [List.mem_singleton.1 hw, ByteArray.size_append]; omega
  have p2 : (wdL (cl.map (fun c => ⟨#[46]⟩ ++ c))).length ≤ 22 * 4 := by
    refine Nat.le_trans (wdL_len _ 22 (fun w hw => ?_)) (by rw [List.length_map]; omega)
    obtain ⟨c, hc, rfl⟩ := List.mem_map.1 hw
    have := c2 c hc
    rw [ByteArray.size_append]; omega
  have p3 : (wdL (List.map (α := ByteArray × ByteArray) (fun x => ⟨#[64]⟩ ++ x.1 ++ ⟨#[61]⟩ ++ x.2) (snapF nmS al))).length ≤ 63 * 4 := by
    refine Nat.le_trans (wdL_len _ 63 (fun w hw => ?_)) (by rw [List.length_map]; omega)
    obtain ⟨x, hx, rfl⟩ := List.mem_map.1 hw
    have := a2 x (snap_mem nmS hx)
    simp only [ByteArray.size_append]; omega
  have p4 : (wdL (List.map (α := ByteArray × Int) (fun x => x.1 ++ ⟨#[61]⟩ ++ itB x.2) (snapF nmI sl))).length ≤ 43 * 4 := by
    refine Nat.le_trans (wdL_len _ 43 (fun w hw => ?_)) (by rw [List.length_map]; omega)
    obtain ⟨x, hx, rfl⟩ := List.mem_map.1 hw
    have h1 := s2 x (snap_mem nmI hx)
    have h2 := itB_le h1.2
    simp only [ByteArray.size_append]; omega
  have pd : ∀ (nm : ByteArray) (x : Int), nm.size ≤ 6 → in64 x → (wdL (durB nm x)).length ≤ 29 := fun nm x hn hx => by
    refine wd_opt (by unfold durB; split <;> simp) (fun w hw => ?_)
    unfold durB at hw
    split at hw
    · cases hw
    · have := itB_le hx
      rw [List.mem_singleton.1 hw]
      simp only [ByteArray.size_append]; omega
  have p5 : (wdL (kndW k)).length ≤ 7 := by
    refine wd_opt (by unfold kndW; split <;> (try split) <;> simp) (fun w hw => ?_)
    unfold kndW at hw
    split at hw
    · rw [List.mem_singleton.1 hw]; decide
    · split at hw
      · rw [List.mem_singleton.1 hw]; decide
      · cases hw
  have p6 := pd wEnter o.1 (by decide) o1
  have p7 := pd wLeave o.2.1 (by decide) o2
  have p8 := pd wMove o.2.2.1 (by decide) o3
  have p9 : (wdL (apB o.2.2.2.2.1)).length ≤ 8 := by
    refine wd_opt (by unfold apB; split <;> simp) (fun w hw => ?_)
    unfold apB at hw
    split at hw
    · rw [List.mem_singleton.1 hw]; decide
    · cases hw
  have p10 : (wdL (mvB o.2.2.2.2.2)).length ≤ 7 := by
    refine wd_opt (by unfold mvB; split <;> simp) (fun w hw => ?_)
    unfold mvB at hw
    split at hw
    · rw [List.mem_singleton.1 hw]; decide
    · cases hw
  have p11 : (wdL (mdB o.2.2.2.1)).length ≤ 8 := by
    refine wd_opt (by unfold mdB; split <;> (try split) <;> simp) (fun w hw => ?_)
    unfold mdB at hw
    split at hw
    · rw [List.mem_singleton.1 hw]; decide
    · split at hw
      · rw [List.mem_singleton.1 hw]; decide
      · cases hw
  unfold itmB
  simp only [wdL_app, List.length_append]
  omega
end Go.Proofs.YtipdgobplfkipaaGreatDoor
namespace Go.Proofs.YtipdgobplfkipaaGreatDoor
open Go.RowKit

mutual
def dep : Tree → Nat
  | .mk _ _ _ _ _ _ _ _ kids => depL kids + 1
def depL : List Tree → Nat
  | [] => 0
  | t :: ts => max (dep t) (depL ts)
end
mutual
def lng : Tree → Int
  | .mk _ _ _ _ _ _ _ (e, lv, m, _) kids => max (max 0 (max e (max lv m))) (lngL kids)
def lngL : List Tree → Int
  | [] => 0
  | t :: ts => max (lng t) (lngL ts)
end
def sumN (l : List Nat) : Nat := l.foldl (· + ·) 0
def mxI (l : List Int) : Int := l.foldl max 0
theorem cntL_snoc (ts : List Tree) (t : Tree) : cntL (ts ++ [t]) = cntL ts + cnt t := by rw [cntL_app]; simp [cntL]
theorem depL_snoc (ts : List Tree) (t : Tree) : depL (ts ++ [t]) = max (depL ts) (dep t) := by
  induction ts with
  | nil => simp [depL]
  | cons x ts ih => simp only [List.cons_append, depL, ih]; omega
end Go.Proofs.YtipdgobplfkipaaGreatDoor
