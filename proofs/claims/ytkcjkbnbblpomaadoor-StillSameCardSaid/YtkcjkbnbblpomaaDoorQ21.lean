/- Layer 9: trees as the document has them. Layer 7: the view of flat nodes. Layer 9, plain: trees that are told apart by their texts. -/
import Derived.Test.YtkcjkbnbblpomaaDoorQ11
import Derived.Test.YtkcjkbnbblpomaaDoorQ12
import Derived.Test.YtkcjkbnbblpomaaDoorQ14
import Derived.Test.YtkcjkbnbblpomaaDoorQ17
import Derived.Test.YtkcjkbnbblpomaaDoorQ15
import Derived.Test.YtkcjkbnbblpomaaDoorQ16
set_option linter.all false
namespace Go.Proofs.YtkcjkbnbblpomaaDoor
open Go.RowKit
set_option maxRecDepth 100000
attribute [local irreducible] Go.Code.wpIn Go.wpListIn Go.Calls Gives Go.Exit.then Go.Exit.inBlock Done ObxE

set_option maxHeartbeats 4000000 in
theorem told9_any : ∀ (n : Nat) (t : STree) (h : SnH) (w0 : World), SizeOf.sizeOf t < n → SFits t → SrR w0 t h → Calls Tryd.prog 9 #[snV h] w0 (Ret fun v w => St w0 [streeH t v] w)
  | 0, _, _, _, hn, _, _ => by omega
  | n + 1, t, h, w0, hn, hf, hr => by
    have ih := told9_any n
    obtain ⟨id, k, tag, text, cl, al, sl, kids, a1, m1, a2, m2, a3, m3, a4, m4, H, rfl, rfl, c1, c2, c3, c4, hF⟩ := hr.split
    obtain ⟨l1, l2, l3, l4, l5⟩ := hf
    have hHk : H.length = kids.length := hF.1
    show Calls Tryd.prog 9 #[.agg #[.int .i64 id, .int .i64 k, .string tag, .string text, .slice a1 cl.length m1, .slice a2 al.length m2, .slice a3 sl.length m3, .slice a4 H.length m4]] w0 _
    refine enter Tryd.func9 rfl Tryd.ntmps9 rfl (fun a hk => ?_); have hS := St.refl w0
    (repeat' (first | (show wpListIn _ _ _ _ _ (_ :: _) _ _; first | (refine wx1 ?_; clear hk a; intro a hk) | (refine wx2 ?_ ?_ <;> (intro hp; clear hk a; intro a hk)) | (refine wx3 ?_; clear hk hS a; intro w b hS a hk) | (refine wx4 ?_; clear hk hS a; intro w hS a hk) | (refine wx5 ?_; clear hk hS a; intro w v hS a hk) | fail) | refine wx0 ?_ | (refine s_end hk ?_; clear hk a; intro a hk) | fail))
    rename_i b1
    rename Nat => b2
    refine wp_drawn 14 mixed (by kernel_rfl) hk hS ?_; clear hk hS a
    (repeat' (first | (show ObxE _ _ _ _ _ _ _ _ _ (_ :: _) _ _ _; first | refine ox1 ?_ | (refine ox2 ?_ ?_ <;> intro hp) | fail) | fail))
    refine' obe_res (fun us a w hk hd hS => ?_) ?_; rotate_left; focus (have hk := Kn.vw hk (by repeat (first | exact VW.nil | apply VW.val rfl | apply VW.base rfl rfl | apply VW.res rfl | apply VW.upd rfl | apply VW.cpy rfl | apply VW.dep rfl | apply VW.fn rfl | apply VW.lnd rfl | apply VW.tak rfl)); exact v_bs0 (hT := eT rfl) (hE := zT rfl))
    (repeat' (first | (show ObxE _ _ _ _ _ _ _ _ _ (_ :: _) _ _ _; first | refine ox1 ?_ | (refine ox2 ?_ ?_ <;> intro hp) | fail) | fail))
    refine' obe_res (fun us a w hk hd hS => ?_) ?_; rotate_left; focus (have hk := Kn.vw hk (by repeat (first | exact VW.nil | apply VW.val rfl | apply VW.base rfl rfl | apply VW.res rfl | apply VW.upd rfl | apply VW.cpy rfl | apply VW.dep rfl | apply VW.fn rfl | apply VW.lnd rfl | apply VW.tak rfl)); exact v_appR (ys := cl) hk hd.1 (hT := eT rfl) (hTx := eT rfl) (hE := zT rfl) (hz := oT rfl) (hzs := rfl) (hs := hS.rdT c1) (hby := bT rfl) (hbytes := by omega) (h63 := by simp only [maxLen]; omega))
    (repeat' (first | (show ObxE _ _ _ _ _ _ _ _ _ (_ :: _) _ _ _; first | refine ox1 ?_ | (refine ox2 ?_ ?_ <;> intro hp) | fail) | fail))
    refine' obe_fn [11] (fun l => .agg #[.int .i64 id, .int .i64 k, .string tag, .string text, l.getD 0 undef, .slice none 0 0, .slice none 0 0, .slice none 0 0]) (fun us a w hk hd hS => ?_) ?_ (by intro k e; simp only [List.mem_cons, List.not_mem_nil, or_false] at e; rcases e with rfl; exact ⟨21, _, rfl, rfl⟩)
    · have hk := Kn.vw hk (by repeat (first | exact VW.nil | apply VW.val rfl | apply VW.base rfl rfl | apply VW.res rfl | apply VW.upd rfl | apply VW.cpy rfl | apply VW.dep rfl | apply VW.fn rfl | apply VW.lnd rfl | apply VW.tak rfl))
      have h1 : (appH 9 cl (us 11)).rd w := hd.2.2.2.2.1
      obtain ⟨_, _, e1, _⟩ := (appH.rd h1).shape
      simp only [Nat.zero_add, Nat.reduceAdd] at hk
      simp only [List.map, List.getD_cons_zero]
      rw [e1] at hk ⊢
      exact g_build hk ⟨rfl, St.refl w⟩ (fsT rfl) (oT rfl)
    refine' obe_res (fun us a w hk hd hS => ?_) ?_; rotate_left; focus (have hk := Kn.vw hk (by repeat (first | exact VW.nil | apply VW.val rfl | apply VW.base rfl rfl | apply VW.res rfl | apply VW.upd rfl | apply VW.cpy rfl | apply VW.dep rfl | apply VW.fn rfl | apply VW.lnd rfl | apply VW.tak rfl)); exact v_alloc hk (oT rfl))
    refine obe_nil ⟨rfl, ?_⟩; intro us a w hk hS
    simp only [resE, List.cons_append, List.nil_append, Nat.zero_add, Nat.reduceAdd] at hS
    obtain ⟨b3, hb3, hS1⟩ := hS.ptv (by (repeat (first | exact At.here | apply At.there))); replace hS := hS1; clear hS1
    replace hk := Kn.kp [1, 2, 3, 22] hk
    simp only [HV.of, List.map, List.getD_cons_zero, Nat.zero_add, Nat.reduceAdd] at hk
    generalize us 11 = v21 at hS hk
    rw [hb3] at hk
    obtain ⟨a21, m21, rfl, _⟩ := (appH.rd (hS.rd (A := appH 9 cl v21) (by (repeat (first | exact At.here | apply At.there))))).shape
    (repeat' (first | (show wpListIn _ _ _ _ _ (_ :: _) _ _; first | (refine wx1 ?_; clear hk a; intro a hk) | (refine wx2 ?_ ?_ <;> (intro hp; clear hk a; intro a hk)) | (refine wx3 ?_; clear hk hS a; intro w b hS a hk) | (refine wx4 ?_; clear hk hS a; intro w hS a hk) | (refine wx5 ?_; clear hk hS a; intro w v hS a hk) | fail) | refine wx0 ?_ | (refine s_end hk ?_; clear hk a; intro a hk) | fail))
    replace hS := hS.nilT 64 PrS
    replace hk := Kn.kp [1, 2, 3, 24, 25, 26] hk
    refine wp_for al.length (fun i _ => [(26, .int .i64 (i : Int))]) (fun i v => [OwT 64 (al.take i) (.slice v.1 i v.2), pts b3 [.int .i64 id, .int .i64 k, .string tag, .string text, .slice a21 cl.length m21, .slice v.1 i v.2, .slice none 0 0, .slice none 0 0] 46, appH 9 cl (.slice a21 cl.length m21), pts b2 [.int .i64 0, .int .i64 0, .string ⟨#[]⟩, .string ⟨#[]⟩, .slice none 0 0, .slice none 0 0, .slice none 0 0, .slice none 0 0] 46, pts b1 [.int .i64 id, .int .i64 k, .string tag, .string text, .slice a1 cl.length m1, .slice a2 al.length m2, .slice a3 sl.length m3, .slice a4 H.length m4] 31]) (fun _ _ => True) ((none, 0) : Option Addr × Nat) hk (by repeat (first | exact trivial | refine ⟨rfl, ?_⟩)) hS.sb trivial ?_
    clear hk hS a
    rintro i ⟨ao, c⟩ a w hi hk hS -
    by_cases hil : i < al.length
    · obtain ⟨⟨nm, val⟩, hx⟩ : ∃ x, al[i]? = some x := ⟨_, List.getElem?_eq_getElem hil⟩
      have hst : al.take (i + 1) = al.take i ++ [(nm, val)] := take_snoc hx
      have htl : (al.take i).length = i := by rw [List.length_take]; omega
      have hv1 := hS.rdT c2
      simp only at hS hk
      (repeat' (first | (show wpListIn _ _ _ _ _ (_ :: _) _ _; first | (refine wx1 ?_; clear hk a; intro a hk) | (refine wx2 ?_ ?_ <;> (intro hp; clear hk a; intro a hk)) | (refine wx3 ?_; clear hk hS a; intro w b hS a hk) | (refine wx4 ?_; clear hk hS a; intro w hS a hk) | (refine wx5 ?_; clear hk hS a; intro w v hS a hk) | fail) | refine wx0 ?_ | (refine s_end hk ?_; clear hk a; intro a hk) | fail))
      have htl1 : (al.take (i + 1)).length = i + 1 := by rw [List.length_take]; omega
      refine sg hk (g_bsT (xs := [((nm, val) : ByteArray × ByteArray)]) (m := 0) hk hS ?_ (hT := eT rfl) (hE := zT rfl) (hz := oT rfl)); clear hk hS a; intro w ve hS a hk
      (repeat' (first | (show wpListIn _ _ _ _ _ (_ :: _) _ _; first | (refine wx1 ?_; clear hk a; intro a hk) | (refine wx2 ?_ ?_ <;> (intro hp; clear hk a; intro a hk)) | (refine wx3 ?_; clear hk hS a; intro w b hS a hk) | (refine wx4 ?_; clear hk hS a; intro w hS a hk) | (refine wx5 ?_; clear hk hS a; intro w v hS a hk) | fail) | refine wx0 ?_ | (refine s_end hk ?_; clear hk a; intro a hk) | fail))
      rw [← hst] at hS
      rename Value => vn
      obtain ⟨aovn, cvn, hshp, _⟩ := (OwT.rd (hS.rd (A := OwT 64 _ vn) (by (repeat (first | exact At.here | apply At.there))))).shape; subst hshp
      rw [htl1] at hS hk
      (repeat' (first | (show wpListIn _ _ _ _ _ (_ :: _) _ _; first | (refine wx1 ?_; clear hk a; intro a hk) | (refine wx2 ?_ ?_ <;> (intro hp; clear hk a; intro a hk)) | (refine wx3 ?_; clear hk hS a; intro w b hS a hk) | (refine wx4 ?_; clear hk hS a; intro w hS a hk) | (refine wx5 ?_; clear hk hS a; intro w v hS a hk) | fail) | refine wx0 ?_ | (refine s_end hk ?_; clear hk a; intro a hk) | fail))
      exact ⟨hil, (aovn, cvn), hk.sd, hS.sb, trivial⟩
    · have : i = al.length := by omega
      subst this
      rw [List.take_length] at hS
      simp only at hS hk
      have c3' := hS.rdT c3
      (repeat' (first | (show wpListIn _ _ _ _ _ (_ :: _) _ _; first | (refine wx1 ?_; clear hk a; intro a hk) | (refine wx2 ?_ ?_ <;> (intro hp; clear hk a; intro a hk)) | (refine wx3 ?_; clear hk hS a; intro w b hS a hk) | (refine wx4 ?_; clear hk hS a; intro w hS a hk) | (refine wx5 ?_; clear hk hS a; intro w v hS a hk) | fail) | refine wx0 ?_ | (refine s_end hk ?_; clear hk a; intro a hk) | fail))
      replace hS := hS.nilT 76 PrI
      replace hk := Kn.kp [1, 2, 3, 38, 39, 40] hk
      refine wp_for sl.length (fun i _ => [(40, .int .i64 (i : Int))]) (fun i v => [OwT 76 (sl.take i) (.slice v.1 i v.2), pts b3 [.int .i64 id, .int .i64 k, .string tag, .string text, .slice a21 cl.length m21, .slice ao al.length c, .slice v.1 i v.2, .slice none 0 0] 46, OwT 64 al (.slice ao al.length c), appH 9 cl (.slice a21 cl.length m21), pts b2 [.int .i64 0, .int .i64 0, .string ⟨#[]⟩, .string ⟨#[]⟩, .slice none 0 0, .slice none 0 0, .slice none 0 0, .slice none 0 0] 46, pts b1 [.int .i64 id, .int .i64 k, .string tag, .string text, .slice a1 cl.length m1, .slice a2 al.length m2, .slice a3 sl.length m3, .slice a4 H.length m4] 31]) (fun _ _ => True) ((none, 0) : Option Addr × Nat) hk (by repeat (first | exact trivial | refine ⟨rfl, ?_⟩)) hS.sb trivial ?_
      clear hk hS a c3'
      rintro i ⟨bo, f⟩ a w hi hk hS -
      by_cases hil : i < sl.length
      · obtain ⟨⟨nm, val⟩, hx⟩ : ∃ x, sl[i]? = some x := ⟨_, List.getElem?_eq_getElem hil⟩
        have hst : sl.take (i + 1) = sl.take i ++ [(nm, val)] := take_snoc hx
        have htl : (sl.take i).length = i := by rw [List.length_take]; omega
        have hv1 := hS.rdT c3
        simp only at hS hk
        (repeat' (first | (show wpListIn _ _ _ _ _ (_ :: _) _ _; first | (refine wx1 ?_; clear hk a; intro a hk) | (refine wx2 ?_ ?_ <;> (intro hp; clear hk a; intro a hk)) | (refine wx3 ?_; clear hk hS a; intro w b hS a hk) | (refine wx4 ?_; clear hk hS a; intro w hS a hk) | (refine wx5 ?_; clear hk hS a; intro w v hS a hk) | fail) | refine wx0 ?_ | (refine s_end hk ?_; clear hk a; intro a hk) | fail))
        have htl1 : (sl.take (i + 1)).length = i + 1 := by rw [List.length_take]; omega
        refine sg hk (g_bsT (xs := [((nm, val) : ByteArray × Int)]) (m := 0) hk hS ?_ (hT := eT rfl) (hE := zT rfl) (hz := oT rfl)); clear hk hS a; intro w ve hS a hk
        (repeat' (first | (show wpListIn _ _ _ _ _ (_ :: _) _ _; first | (refine wx1 ?_; clear hk a; intro a hk) | (refine wx2 ?_ ?_ <;> (intro hp; clear hk a; intro a hk)) | (refine wx3 ?_; clear hk hS a; intro w b hS a hk) | (refine wx4 ?_; clear hk hS a; intro w hS a hk) | (refine wx5 ?_; clear hk hS a; intro w v hS a hk) | fail) | refine wx0 ?_ | (refine s_end hk ?_; clear hk a; intro a hk) | fail))
        rw [← hst] at hS
        rename Value => vn
        obtain ⟨aovn, cvn, hshp, _⟩ := (OwT.rd (hS.rd (A := OwT 76 _ vn) (by (repeat (first | exact At.here | apply At.there))))).shape; subst hshp
        rw [htl1] at hS hk
        (repeat' (first | (show wpListIn _ _ _ _ _ (_ :: _) _ _; first | (refine wx1 ?_; clear hk a; intro a hk) | (refine wx2 ?_ ?_ <;> (intro hp; clear hk a; intro a hk)) | (refine wx3 ?_; clear hk hS a; intro w b hS a hk) | (refine wx4 ?_; clear hk hS a; intro w hS a hk) | (refine wx5 ?_; clear hk hS a; intro w v hS a hk) | fail) | refine wx0 ?_ | (refine s_end hk ?_; clear hk a; intro a hk) | fail))
        exact ⟨hil, (aovn, cvn), hk.sd, hS.sb, trivial⟩
      · have : i = sl.length := by omega
        subst this
        rw [List.take_length] at hS
        simp only at hS hk
        have c4' := hS.rdT c4
        have hF' := hS.rdSo hF
        (repeat' (first | (show wpListIn _ _ _ _ _ (_ :: _) _ _; first | (refine wx1 ?_; clear hk a; intro a hk) | (refine wx2 ?_ ?_ <;> (intro hp; clear hk a; intro a hk)) | (refine wx3 ?_; clear hk hS a; intro w b hS a hk) | (refine wx4 ?_; clear hk hS a; intro w hS a hk) | (refine wx5 ?_; clear hk hS a; intro w v hS a hk) | fail) | refine wx0 ?_ | (refine s_end hk ?_; clear hk a; intro a hk) | fail))
        replace hS := sforR.nil (hS.nilT 46 SnH)
        replace hk := Kn.kp [2, 3, 52, 53, 54] hk
        refine wp_for H.length (fun i _ => [(54, .int .i64 (i : Int))]) (fun i v => [sforR (kids.take i) (v.2 : List SnH), OwT 46 v.2 (.slice v.1.1 i v.1.2), pts b3 [.int .i64 id, .int .i64 k, .string tag, .string text, .slice a21 cl.length m21, .slice ao al.length c, .slice bo sl.length f, .slice v.1.1 i v.1.2] 46, OwT 76 sl (.slice bo sl.length f), OwT 64 al (.slice ao al.length c), appH 9 cl (.slice a21 cl.length m21), pts b2 [.int .i64 0, .int .i64 0, .string ⟨#[]⟩, .string ⟨#[]⟩, .slice none 0 0, .slice none 0 0, .slice none 0 0, .slice none 0 0] 46, pts b1 [.int .i64 id, .int .i64 k, .string tag, .string text, .slice a1 cl.length m1, .slice a2 al.length m2, .slice a3 sl.length m3, .slice a4 H.length m4] 31]) (fun _ _ => True) (((none, 0), []) : (Option Addr × Nat) × List SnH) hk (by repeat (first | exact trivial | refine ⟨rfl, ?_⟩)) hS.sb trivial ?_
        clear hk hS a
        rintro j ⟨⟨ak, ck⟩, H'⟩ a w hj hk hS -
        have hFH := hS.soR .here
        have hkl : (kids.take j).length = j := by rw [List.length_take, ← hF.1]; omega
        have hHl : H'.length = j := by rw [hFH.1, hkl]
        by_cases hjl : j < H.length
        · obtain ⟨tk, htk⟩ : ∃ t, kids[j]? = some t := ⟨_, List.getElem?_eq_getElem (by rw [← hF.1]; exact hjl)⟩
          obtain ⟨hd0, hx⟩ : ∃ x, H[j]? = some x := ⟨_, List.getElem?_eq_getElem hjl⟩
          have hTr := hF.2 j tk hd0 htk hx
          have hfk := l5 tk (List.mem_of_getElem? htk)
          have hlt : SizeOf.sizeOf tk < n := by have := skid_lt (id := id) (k := k) (tag := tag) (text := text) (cl := cl) (at_ := al) (st := sl) (List.mem_of_getElem? htk); omega
          have hst : kids.take (j + 1) = kids.take j ++ [tk] := take_snoc htk
          have c4'' := hS.rdT c4
          simp only at hS hk
          obtain ⟨id', k', tag', text', ⟨x1, x2, x3⟩, ⟨y1, y2, y3⟩, ⟨z1, z2, z3⟩, ⟨u1, u2, u3⟩⟩ := hd0
          (repeat' (first | (show wpListIn _ _ _ _ _ (_ :: _) _ _; first | (refine wx1 ?_; clear hk a; intro a hk) | (refine wx2 ?_ ?_ <;> (intro hp; clear hk a; intro a hk)) | (refine wx3 ?_; clear hk hS a; intro w b hS a hk) | (refine wx4 ?_; clear hk hS a; intro w hS a hk) | (refine wx5 ?_; clear hk hS a; intro w v hS a hk) | fail) | refine wx0 ?_ | (refine s_end hk ?_; clear hk a; intro a hk) | fail))
          refine wp_drawn 5 mixed (by kernel_rfl) hk hS ?_; clear hk hS a
          (repeat' (first | (show ObxE _ _ _ _ _ _ _ _ _ (_ :: _) _ _ _; first | refine ox1 ?_ | (refine ox2 ?_ ?_ <;> intro hp) | fail) | fail))
          refine' obe_res (fun us a w hk hd hS => ?_) ?_; rotate_left; focus (have hk := Kn.vw hk (by repeat (first | exact VW.nil | apply VW.val rfl | apply VW.base rfl rfl | apply VW.res rfl | apply VW.upd rfl | apply VW.cpy rfl | apply VW.dep rfl | apply VW.fn rfl | apply VW.lnd rfl | apply VW.tak rfl)); exact g_callO hk (hf := by kernel_rfl) (hc := ih tk (id', k', tag', text', ⟨x1, x2, x3⟩, ⟨y1, y2, y3⟩, ⟨z1, z2, z3⟩, ⟨u1, u2, u3⟩) _ hlt hfk (hS.rdSr hTr)) (h := fun _ _ h => h))
          refine' obe_dep 61 3 (V := fun u v => OwT 46 [snOf u] v) (fun us a w hk hd hS => ?_) ?_
          · have hk := Kn.vw hk (by repeat (first | exact VW.nil | apply VW.val rfl | apply VW.base rfl rfl | apply VW.res rfl | apply VW.upd rfl | apply VW.cpy rfl | apply VW.dep rfl | apply VW.fn rfl | apply VW.lnd rfl | apply VW.tak rfl))
            have hG : (streeH tk (us 3)).rd w := hd.1
            obtain ⟨⟨id2, k2, tag2, text2, ⟨x12, x22, x32⟩, ⟨y12, y22, y32⟩, ⟨z12, z22, z32⟩, ⟨u12, u22, u32⟩⟩, he, _⟩ := streeH.rd hG
            show Gives _ _ _ _ (fun v w' => St w [OwT 46 [snOf (us 3)] v] w')
            simp only [Nat.zero_add, Nat.reduceAdd] at hk
            rw [he] at hk ⊢
            rw [snOf_snV]
            exact v_bsT (xs := [((id2, k2, tag2, text2, ⟨x12, x22, x32⟩, ⟨y12, y22, y32⟩, ⟨z12, z22, z32⟩, ⟨u12, u22, u32⟩) : SnH)]) (m := 0) hk (hT := eT rfl) (hE := zT rfl) (hz := oT rfl)
          refine obe_nil ⟨rfl, ?_⟩; intro us a w hk hS
          simp only [resE, List.cons_append, List.nil_append, Nat.zero_add, Nat.reduceAdd] at hS
          replace hk := Kn.kp [2, 3, 52, 53, 54, 59, 61, 62] hk
          simp only [HV.of, Nat.zero_add, Nat.reduceAdd] at hk
          generalize us 3 = v63 at hS hk
          generalize us 4 = v64 at hS hk
          obtain ⟨hd1, rfl, hS1⟩ := St.stree hS (.there .here)
          clear hS
          have hS := hS1
          clear hS1
          rw [snOf_snV] at hS
          (repeat' (first | (show wpListIn _ _ _ _ _ (_ :: _) _ _; first | (refine wx1 ?_; clear hk a; intro a hk) | (refine wx2 ?_ ?_ <;> (intro hp; clear hk a; intro a hk)) | (refine wx3 ?_; clear hk hS a; intro w b hS a hk) | (refine wx4 ?_; clear hk hS a; intro w hS a hk) | (refine wx5 ?_; clear hk hS a; intro w v hS a hk) | fail) | refine wx0 ?_ | (refine s_end hk ?_; clear hk a; intro a hk) | fail))
          have hl1 : (H' ++ [hd1]).length = j + 1 := by rw [List.length_append, hHl]; rfl
          rename Value => vn
          obtain ⟨aovn, cvn, hshp, _⟩ := (OwT.rd (hS.rd (A := OwT 46 _ vn) (by (repeat (first | exact At.here | apply At.there))))).shape; subst hshp
          rw [hl1] at hS hk
          (repeat' (first | (show wpListIn _ _ _ _ _ (_ :: _) _ _; first | (refine wx1 ?_; clear hk a; intro a hk) | (refine wx2 ?_ ?_ <;> (intro hp; clear hk a; intro a hk)) | (refine wx3 ?_; clear hk hS a; intro w b hS a hk) | (refine wx4 ?_; clear hk hS a; intro w hS a hk) | (refine wx5 ?_; clear hk hS a; intro w v hS a hk) | fail) | refine wx0 ?_ | (refine s_end hk ?_; clear hk a; intro a hk) | fail))
          have hS1 := sforR.snoc (ts := kids.take j) (H := H') (t := tk) (h := hd1) (L := [OwT 46 (H' ++ [hd1]) (.slice aovn (j + 1) cvn), pts b3 [.int .i64 id, .int .i64 k, .string tag, .string text, .slice a21 cl.length m21, .slice ao al.length c, .slice bo sl.length f, .slice aovn (j + 1) cvn] 46, OwT 76 sl (.slice bo sl.length f), OwT 64 al (.slice ao al.length c), appH 9 cl (.slice a21 cl.length m21), pts b2 [.int .i64 0, .int .i64 0, .string ⟨#[]⟩, .string ⟨#[]⟩, .slice none 0 0, .slice none 0 0, .slice none 0 0, .slice none 0 0] 46, pts b1 [.int .i64 id, .int .i64 k, .string tag, .string text, .slice a1 cl.length m1, .slice a2 al.length m2, .slice a3 sl.length m3, .slice a4 H.length m4] 31]) (hS.sub (by (repeat (first | exact Sub.nil | exact Sub.refl | refine Sub.cons (by (repeat (first | exact At.here | apply At.there))) ?_))))
          rw [← hst] at hS1
          exact ⟨hjl, ((aovn, cvn), H' ++ [hd1]), hk.sd, hS1, trivial⟩
        · have hjj : j = kids.length := by have := hF.1; omega
          subst hjj
          rw [List.take_length] at hS
          simp only at hS hk
          (repeat' (first | (show wpListIn _ _ _ _ _ (_ :: _) _ _; first | (refine wx1 ?_; clear hk a; intro a hk) | (refine wx2 ?_ ?_ <;> (intro hp; clear hk a; intro a hk)) | (refine wx3 ?_; clear hk hS a; intro w b hS a hk) | (refine wx4 ?_; clear hk hS a; intro w hS a hk) | (refine wx5 ?_; clear hk hS a; intro w v hS a hk) | fail) | refine wx0 ?_ | (refine s_end hk ?_; clear hk a; intro a hk) | fail))
          refine done1R hk rfl (.str hS (hT := aT rfl) (hs := zT rfl)) (h := ?_)
          exact streeH.of (h := (id, k, tag, text, ⟨a21, cl.length, m21⟩, ⟨ao, al.length, c⟩, ⟨bo, sl.length, f⟩, ⟨ak, kids.length, ck⟩)) (streeR.of (A1 := appH 9 cl (.slice a21 cl.length m21)) (A2 := OwT 64 al (.slice ao al.length c)) (A3 := OwT 76 sl (.slice bo sl.length f)) (A4 := OwT 46 H' (.slice ak kids.length ck)) (hS.sub (by (repeat (first | exact Sub.nil | exact Sub.refl | refine Sub.cons (by (repeat (first | exact At.here | apply At.there))) ?_)))))
end Go.Proofs.YtkcjkbnbblpomaaDoor
namespace Go.Proofs.YtkcjkbnbblpomaaDoor
open Go.RowKit
set_option maxRecDepth 100000
attribute [local irreducible] Go.Code.wpIn Go.wpListIn Go.Calls Gives Go.Exit.then Go.Exit.inBlock Done ObxE

set_option maxHeartbeats 4000000 in
theorem tree07_any (F : List FlH) (v : Value) (most : Nat) (hm1 : 1 ≤ most) (hm2 : most ≤ 1000) (w0 : World) (hv : SlT F v w0) (hR : ∀ h ∈ F, FlR w0 h) :
    Calls Tryd.prog 6 #[v, .int .i64 (most : Int)] w0 (Ret fun u w => ∃ t, Small t ∧ cnt t ≤ most ∧ St w0 [treeH t u] w) := by
  have hF63 : F.length ≤ maxLen := hv.len_le
  simp only [maxLen] at hF63
  refine enter Tryd.func6 rfl Tryd.ntmps6 rfl (fun a hk => ?_); have hS := St.refl w0
  by_cases hgt : most < F.length
  · have hl : (F.take most).length = most := by rw [List.length_take]; omega
    have hRR : ∀ h ∈ F.take most, FlR w0 h := fun h hh => hR h (List.mem_of_mem_take hh)
    (repeat' (first | (show wpListIn _ _ _ _ _ (_ :: _) _ _; first | (refine wx1 ?_; clear hk a; intro a hk) | (refine wx2 ?_ ?_ <;> (intro hp; clear hk a; intro a hk)) | (refine wx3 ?_; clear hk hS a; intro w b hS a hk) | (refine wx4 ?_; clear hk hS a; intro w hS a hk) | (refine wx5 ?_; clear hk hS a; intro w v hS a hk) | fail) | refine wx0 ?_ | (refine s_end hk ?_; clear hk a; intro a hk) | fail))
    refine sg hk (g_partT (j := most) hk ?_ (ht := eT rfl) (hs := (by first | exact St.rdT hS (by assumption) | exact OwT.rd (hS.rd (A := OwT _ _ _) (by (repeat (first | exact At.here | apply At.there)))) | assumption)) (hE := zT rfl) (hj := by omega)); clear hk a; intro vp hvp a hk
    have hv2 := hvp _ hv
    by_cases hF0 : F.take most = []
    · have h0 : (F.take most).length = 0 := by rw [hF0]; rfl
      (repeat' (first | (show wpListIn _ _ _ _ _ (_ :: _) _ _; first | (refine wx1 ?_; clear hk a; intro a hk) | (refine wx2 ?_ ?_ <;> (intro hp; clear hk a; intro a hk)) | (refine wx3 ?_; clear hk hS a; intro w b hS a hk) | (refine wx4 ?_; clear hk hS a; intro w hS a hk) | (refine wx5 ?_; clear hk hS a; intro w v hS a hk) | fail) | refine wx0 ?_ | (refine s_end hk ?_; clear hk a; intro a hk) | fail))
      refine done1R hk rfl (.str hS (hT := aT rfl) (hs := zT rfl)) (h := ⟨.mk 2 ⟨#[112]⟩ ⟨#[]⟩ ⟨#[]⟩ [] [] [] (0, 0, 0, 0, false, false) [], Small.mk ⟨by unfold in64; omega, by decide, by decide, by decide, by simp, by simp, by simp, by simp, by simp, by simp, by unfold in64; exact ⟨by decide, by decide⟩, by unfold in64; exact ⟨by decide, by decide⟩, by unfold in64; exact ⟨by decide, by decide⟩, by unfold in64; exact ⟨by decide, by decide⟩⟩ (by simp), by simp [cnt, cntL]; omega, ?_⟩)
      have hS1 := (((hS.nil.nilT 9 ByteArray).nilT 64 (ByteArray × ByteArray)).nilT 76 (ByteArray × Int)).nilT 40 NdH
      exact treeH.of (h := (2, ⟨#[112]⟩, ⟨#[]⟩, ⟨#[]⟩, ⟨none, 0, 0⟩, ⟨none, 0, 0⟩, ⟨none, 0, 0⟩, (0, 0, 0, 0, false, false), ⟨none, 0, 0⟩)) (treeR.of (A1 := OwT 9 ([] : List ByteArray) (.slice none 0 0)) (A2 := OwT 64 ([] : List (ByteArray × ByteArray)) (.slice none 0 0)) (A3 := OwT 76 ([] : List (ByteArray × Int)) (.slice none 0 0)) (A4 := OwT 40 ([] : List NdH) (.slice none 0 0)) (H := []) (kids := []) ((forR.nil hS1).sub (by (repeat (first | exact Sub.nil | exact Sub.refl | refine Sub.cons (by (repeat (first | exact At.here | apply At.there))) ?_)))))
    · have h1 : 0 < (F.take most).length := List.length_pos_iff.2 hF0
      obtain ⟨x, hx⟩ : ∃ x, (F.take most)[0]? = some x := ⟨_, List.getElem?_eq_getElem h1⟩
      obtain ⟨dp, k, tag, key, text, cl, al, sl, e, lv, m, d, p, q, a1, a2, a3, m1, m2, m3, rfl, c1, c2, c3, b1, b2, b3, b4, b5, b6, b7⟩ := hRR x (List.mem_of_getElem? hx)
      (repeat' (first | (show wpListIn _ _ _ _ _ (_ :: _) _ _; first | (refine wx1 ?_; clear hk a; intro a hk) | (refine wx2 ?_ ?_ <;> (intro hp; clear hk a; intro a hk)) | (refine wx3 ?_; clear hk hS a; intro w b hS a hk) | (refine wx4 ?_; clear hk hS a; intro w hS a hk) | (refine wx5 ?_; clear hk hS a; intro w v hS a hk) | fail) | refine wx0 ?_ | (refine s_end hk ?_; clear hk a; intro a hk) | fail))
      refine sg hk (g_callO hk (hf := by kernel_rfl) (hc := node07_any dp k tag key text cl al sl e lv m d p q a1 a2 a3 m1 m2 m3 _ (hS.rdT c1) (hS.rdT c2) (hS.rdT c3)) (h := ?_)); clear hk a; rintro vn w hS1 a hk; replace hS := hS.call hS1; clear hS1
      rw [List.cons_append, List.nil_append] at hS
      obtain ⟨hd1, rfl, hS1⟩ := St.tree hS .here
      clear hS
      have hS := hS1
      clear hS1
      obtain ⟨k0, tag0, key0, text0, cl0, al0, sl0, e0, lv0, m0, d0, p0, q0, kids0, A1, M1, A2, M2, A3, M3, A4, M4, H0, he, rfl, _⟩ := (hS.trR .here).split
      have hok := okN_node (tag := tag) (key := key) (text := text) (cl := cl) (al := al) (p := p) (q := q) b2 b3 b4 b5 b6 b7
      unfold nodeF at he hS
      injection he with q1 q2 q3 q4 q5 q6 q7 q8 q9
      rw [q1, q2, q3, q4, q5, q6, q7, q8, q9] at hS
      rw [q1, q2, q3, q4, q5, q6, q7, q8] at hok
      clear q1 q2 q3 q4 q5 q6 q7 q8 q9
      (repeat' (first | (show wpListIn _ _ _ _ _ (_ :: _) _ _; first | (refine wx1 ?_; clear hk a; intro a hk) | (refine wx2 ?_ ?_ <;> (intro hp; clear hk a; intro a hk)) | (refine wx3 ?_; clear hk hS a; intro w b hS a hk) | (refine wx4 ?_; clear hk hS a; intro w hS a hk) | (refine wx5 ?_; clear hk hS a; intro w v hS a hk) | fail) | refine wx0 ?_ | (refine s_end hk ?_; clear hk a; intro a hk) | fail))
      refine sg hk (g_callO hk (hf := by kernel_rfl) (hc := kids07_any (F.take most) vp (by omega) ((F.take most).length + 1) 1 dp _ (by omega) (by omega) (hS.rdT hv2) (fun h hh => (hRR h hh).frz hS.frz)) (h := ?_)); clear hk a; rintro vr w ⟨ts2, H2, at2, ak2, ck2, rfl, r1, r2, r3, r4, hS1⟩ a hk; replace hS := hS.call hS1; clear hS1
      rw [List.cons_append, List.cons_append, List.nil_append] at hS
      (repeat' (first | (show wpListIn _ _ _ _ _ (_ :: _) _ _; first | (refine wx1 ?_; clear hk a; intro a hk) | (refine wx2 ?_ ?_ <;> (intro hp; clear hk a; intro a hk)) | (refine wx3 ?_; clear hk hS a; intro w b hS a hk) | (refine wx4 ?_; clear hk hS a; intro w hS a hk) | (refine wx5 ?_; clear hk hS a; intro w v hS a hk) | fail) | refine wx0 ?_ | (refine s_end hk ?_; clear hk a; intro a hk) | fail))
      refine done1R hk rfl (.str hS (hT := aT rfl) (hs := zT rfl)) (h := ⟨.mk k0 tag0 key0 text0 cl0 al0 sl0 (e0, lv0, m0, d0, p0, q0) ts2, .mk hok r4, by simp only [cnt]; omega, ?_⟩)
      have hS1 := treeR.kids (k := k0) (tag := tag0) (key := key0) (text := text0) (cl := cl0) (at_ := al0) (st := sl0) (o := (e0, lv0, m0, d0, p0, q0)) (hc := ⟨A1, cl0.length, M1⟩) (ha := ⟨A2, al0.length, M2⟩) (hs := ⟨A3, sl0.length, M3⟩) (hk0 := ⟨A4, H0.length, M4⟩) (kids := ts2) (kids0 := kids0) (E := 40) (hk := ⟨ak2, H2.length, ck2⟩) (H := H2) (L := []) (hS.sub (by (repeat (first | exact Sub.nil | exact Sub.refl | refine Sub.cons (by (repeat (first | exact At.here | apply At.there))) ?_))))
      exact treeH.of (h := (k0, tag0, key0, text0, ⟨A1, cl0.length, M1⟩, ⟨A2, al0.length, M2⟩, ⟨A3, sl0.length, M3⟩, (e0, lv0, m0, d0, p0, q0), ⟨ak2, H2.length, ck2⟩)) hS1
  · have hRR : ∀ h ∈ F, FlR w0 h := hR
    by_cases hF0 : F = []
    · have h0 : (F).length = 0 := by rw [hF0]; rfl
      (repeat' (first | (show wpListIn _ _ _ _ _ (_ :: _) _ _; first | (refine wx1 ?_; clear hk a; intro a hk) | (refine wx2 ?_ ?_ <;> (intro hp; clear hk a; intro a hk)) | (refine wx3 ?_; clear hk hS a; intro w b hS a hk) | (refine wx4 ?_; clear hk hS a; intro w hS a hk) | (refine wx5 ?_; clear hk hS a; intro w v hS a hk) | fail) | refine wx0 ?_ | (refine s_end hk ?_; clear hk a; intro a hk) | fail))
      refine done1R hk rfl (.str hS (hT := aT rfl) (hs := zT rfl)) (h := ⟨.mk 2 ⟨#[112]⟩ ⟨#[]⟩ ⟨#[]⟩ [] [] [] (0, 0, 0, 0, false, false) [], Small.mk ⟨by unfold in64; omega, by decide, by decide, by decide, by simp, by simp, by simp, by simp, by simp, by simp, by unfold in64; exact ⟨by decide, by decide⟩, by unfold in64; exact ⟨by decide, by decide⟩, by unfold in64; exact ⟨by decide, by decide⟩, by unfold in64; exact ⟨by decide, by decide⟩⟩ (by simp), by simp [cnt, cntL]; omega, ?_⟩)
      have hS1 := (((hS.nil.nilT 9 ByteArray).nilT 64 (ByteArray × ByteArray)).nilT 76 (ByteArray × Int)).nilT 40 NdH
      exact treeH.of (h := (2, ⟨#[112]⟩, ⟨#[]⟩, ⟨#[]⟩, ⟨none, 0, 0⟩, ⟨none, 0, 0⟩, ⟨none, 0, 0⟩, (0, 0, 0, 0, false, false), ⟨none, 0, 0⟩)) (treeR.of (A1 := OwT 9 ([] : List ByteArray) (.slice none 0 0)) (A2 := OwT 64 ([] : List (ByteArray × ByteArray)) (.slice none 0 0)) (A3 := OwT 76 ([] : List (ByteArray × Int)) (.slice none 0 0)) (A4 := OwT 40 ([] : List NdH) (.slice none 0 0)) (H := []) (kids := []) ((forR.nil hS1).sub (by (repeat (first | exact Sub.nil | exact Sub.refl | refine Sub.cons (by (repeat (first | exact At.here | apply At.there))) ?_)))))
    · have h1 : 0 < (F).length := List.length_pos_iff.2 hF0
      obtain ⟨x, hx⟩ : ∃ x, (F)[0]? = some x := ⟨_, List.getElem?_eq_getElem h1⟩
      obtain ⟨dp, k, tag, key, text, cl, al, sl, e, lv, m, d, p, q, a1, a2, a3, m1, m2, m3, rfl, c1, c2, c3, b1, b2, b3, b4, b5, b6, b7⟩ := hRR x (List.mem_of_getElem? hx)
      (repeat' (first | (show wpListIn _ _ _ _ _ (_ :: _) _ _; first | (refine wx1 ?_; clear hk a; intro a hk) | (refine wx2 ?_ ?_ <;> (intro hp; clear hk a; intro a hk)) | (refine wx3 ?_; clear hk hS a; intro w b hS a hk) | (refine wx4 ?_; clear hk hS a; intro w hS a hk) | (refine wx5 ?_; clear hk hS a; intro w v hS a hk) | fail) | refine wx0 ?_ | (refine s_end hk ?_; clear hk a; intro a hk) | fail))
      refine sg hk (g_callO hk (hf := by kernel_rfl) (hc := node07_any dp k tag key text cl al sl e lv m d p q a1 a2 a3 m1 m2 m3 _ (hS.rdT c1) (hS.rdT c2) (hS.rdT c3)) (h := ?_)); clear hk a; rintro vn w hS1 a hk; replace hS := hS.call hS1; clear hS1
      rw [List.cons_append, List.nil_append] at hS
      obtain ⟨hd1, rfl, hS1⟩ := St.tree hS .here
      clear hS
      have hS := hS1
      clear hS1
      obtain ⟨k0, tag0, key0, text0, cl0, al0, sl0, e0, lv0, m0, d0, p0, q0, kids0, A1, M1, A2, M2, A3, M3, A4, M4, H0, he, rfl, _⟩ := (hS.trR .here).split
      have hok := okN_node (tag := tag) (key := key) (text := text) (cl := cl) (al := al) (p := p) (q := q) b2 b3 b4 b5 b6 b7
      unfold nodeF at he hS
      injection he with q1 q2 q3 q4 q5 q6 q7 q8 q9
      rw [q1, q2, q3, q4, q5, q6, q7, q8, q9] at hS
      rw [q1, q2, q3, q4, q5, q6, q7, q8] at hok
      clear q1 q2 q3 q4 q5 q6 q7 q8 q9
      (repeat' (first | (show wpListIn _ _ _ _ _ (_ :: _) _ _; first | (refine wx1 ?_; clear hk a; intro a hk) | (refine wx2 ?_ ?_ <;> (intro hp; clear hk a; intro a hk)) | (refine wx3 ?_; clear hk hS a; intro w b hS a hk) | (refine wx4 ?_; clear hk hS a; intro w hS a hk) | (refine wx5 ?_; clear hk hS a; intro w v hS a hk) | fail) | refine wx0 ?_ | (refine s_end hk ?_; clear hk a; intro a hk) | fail))
      refine sg hk (g_callO hk (hf := by kernel_rfl) (hc := kids07_any (F) v (by omega) ((F).length + 1) 1 dp _ (by omega) (by omega) (hS.rdT hv) (fun h hh => (hRR h hh).frz hS.frz)) (h := ?_)); clear hk a; rintro vr w ⟨ts2, H2, at2, ak2, ck2, rfl, r1, r2, r3, r4, hS1⟩ a hk; replace hS := hS.call hS1; clear hS1
      rw [List.cons_append, List.cons_append, List.nil_append] at hS
      (repeat' (first | (show wpListIn _ _ _ _ _ (_ :: _) _ _; first | (refine wx1 ?_; clear hk a; intro a hk) | (refine wx2 ?_ ?_ <;> (intro hp; clear hk a; intro a hk)) | (refine wx3 ?_; clear hk hS a; intro w b hS a hk) | (refine wx4 ?_; clear hk hS a; intro w hS a hk) | (refine wx5 ?_; clear hk hS a; intro w v hS a hk) | fail) | refine wx0 ?_ | (refine s_end hk ?_; clear hk a; intro a hk) | fail))
      refine done1R hk rfl (.str hS (hT := aT rfl) (hs := zT rfl)) (h := ⟨.mk k0 tag0 key0 text0 cl0 al0 sl0 (e0, lv0, m0, d0, p0, q0) ts2, .mk hok r4, by simp only [cnt]; omega, ?_⟩)
      have hS1 := treeR.kids (k := k0) (tag := tag0) (key := key0) (text := text0) (cl := cl0) (at_ := al0) (st := sl0) (o := (e0, lv0, m0, d0, p0, q0)) (hc := ⟨A1, cl0.length, M1⟩) (ha := ⟨A2, al0.length, M2⟩) (hs := ⟨A3, sl0.length, M3⟩) (hk0 := ⟨A4, H0.length, M4⟩) (kids := ts2) (kids0 := kids0) (E := 40) (hk := ⟨ak2, H2.length, ck2⟩) (H := H2) (L := []) (hS.sub (by (repeat (first | exact Sub.nil | exact Sub.refl | refine Sub.cons (by (repeat (first | exact At.here | apply At.there))) ?_))))
      exact treeH.of (h := (k0, tag0, key0, text0, ⟨A1, cl0.length, M1⟩, ⟨A2, al0.length, M2⟩, ⟨A3, sl0.length, M3⟩, (e0, lv0, m0, d0, p0, q0), ⟨ak2, H2.length, ck2⟩)) hS1
end Go.Proofs.YtkcjkbnbblpomaaDoor
namespace Go.Proofs.YtkcjkbnbblpomaaDoor
open Go.RowKit

theorem span_eq (p : UInt8 → Bool) : ∀ (x y : List UInt8) (c d : UInt8) (r r' : List UInt8), x.all p = true → y.all p = true → p c = false → p d = false → x ++ c :: r = y ++ d :: r' → x = y ∧ c = d ∧ r = r'
  | [], [], c, d, r, r', _, _, _, _, h => by simpa using h
  | [], b :: y, c, d, r, r', _, hy, hc, _, h => by
    simp only [List.nil_append, List.cons_append, List.cons.injEq] at h
    rw [List.all_cons, ← h.1, hc] at hy
    simp at hy
  | a :: x, [], c, d, r, r', hx, _, _, hd, h => by
    simp only [List.nil_append, List.cons_append, List.cons.injEq] at h
    rw [List.all_cons, h.1, hd] at hx
    simp at hx
  | a :: x, b :: y, c, d, r, r', hx, hy, hc, hd, h => by
    simp only [List.cons_append, List.cons.injEq] at h
    rw [List.all_cons, Bool.and_eq_true] at hx hy
    obtain ⟨h1, h2, h3⟩ := span_eq p x y c d r r' hx.2 hy.2 hc hd h.2
    exact ⟨by rw [h.1, h1], h2, h3⟩
def Stp (r : List UInt8) : Prop := ∃ c q, r = c :: q ∧ (c = 32 ∨ c = 41)
theorem span_stp (p : UInt8 → Bool) (h1 : p 32 = false) (h2 : p 41 = false) {x y r r' : List UInt8} (hx : x.all p = true) (hy : y.all p = true) (hr : Stp r) (hr' : Stp r') (h : x ++ r = y ++ r') : x = y ∧ r = r' := by
  obtain ⟨c, q, rfl, hc⟩ := hr
  obtain ⟨d, q', rfl, hd⟩ := hr'
  have e1 : p c = false := by rcases hc with rfl | rfl <;> assumption
  have e2 : p d = false := by rcases hd with rfl | rfl <;> assumption
  obtain ⟨h3, h4, h5⟩ := span_eq p x y c d q q' hx hy e1 e2 h
  exact ⟨h3, by rw [h4, h5]⟩
def joinF {α : Type} (f : α → List UInt8) (l : List α) : List UInt8 := l.flatMap (fun x => 32 :: f x)
theorem joinF_cons {α : Type} (f : α → List UInt8) (x : α) (l : List α) : joinF f (x :: l) = 32 :: (f x ++ joinF f l) := by simp [joinF]
def NSt (q : UInt8 → Bool) (r : List UInt8) : Prop := ∀ c t, r = 32 :: c :: t → q c = false
theorem joinF_nst {α : Type} {q : UInt8 → Bool} {f : α → List UInt8} {l : List α} {r : List UInt8} (hl : ∀ x ∈ l, ∃ c t, f x = c :: t ∧ q c = false) (hr : NSt q r) : NSt q (joinF f l ++ r) := by
  cases l with
  | nil => exact hr
  | cons x l =>
    obtain ⟨c, t, e, hc⟩ := hl x (by simp)
    intro c' t' e'
    rw [joinF_cons, e] at e'
    simp only [List.cons_append, List.cons.injEq, true_and] at e'
    rw [← e'.1]; exact hc
def all2 {α : Type} (R : α → α → Prop) : List α → List α → Prop
  | [], [] => True
  | x :: l, y :: m => R x y ∧ all2 R l m
  | [], _ :: _ => False
  | _ :: _, [] => False
inductive VT : STree → Prop
  | mk {id k : Int} {tag text : ByteArray} {cl : List ByteArray} {al : List (ByteArray × ByteArray)} {sl : List (ByteArray × Int)} {kids : List STree}
    (h : (k = 1 ∧ text.data.toList.all priB = true ∧ tag = ⟨#[]⟩ ∧ cl = [] ∧ al = [] ∧ sl = [] ∧ kids = []) ∨
      (k = 2 ∧ text = ⟨#[]⟩ ∧ tag.data.toList.all plaB = true ∧ (∀ c ∈ cl, c.data.toList.all plaB = true) ∧ (∀ x ∈ al, x.1.data.toList.all plaB = true ∧ x.2.data.toList.all visB = true) ∧ (∀ x ∈ sl, nameS x.1 = true)))
    (hk : ∀ t ∈ kids, VT t) : VT (.mk id k tag text cl al sl kids)
def shB (t : STree) : List UInt8 := (showT false t).data.toList
def dotB (c : ByteArray) : List UInt8 := 46 :: c.data.toList
def attB (x : ByteArray × ByteArray) : List UInt8 := 64 :: (x.1.data.toList ++ 61 :: x.2.data.toList)
def styB (x : ByteArray × Int) : List UInt8 := x.1.data.toList ++ 61 :: Lib.itoa x.2
theorem bs_app (a b : ByteArray) : (a ++ b).data.toList = a.data.toList ++ b.data.toList := by rw [ByteArray.data_append, Array.toList_append]
theorem joinT_app (a b : List ByteArray) : joinT (a ++ b) = joinT a ++ joinT b := by simp [joinT]
theorem joinT_F {α : Type} (g : α → ByteArray) (l : List α) : joinT (l.map g) = joinF (fun x => (g x).data.toList) l := by
  unfold joinT joinF
  rw [List.flatMap_map]
theorem shB_txt {id : Int} {tag text : ByteArray} {cl : List ByteArray} {al : List (ByteArray × ByteArray)} {sl : List (ByteArray × Int)} {kids : List STree} :
    shB (.mk id 1 tag text cl al sl kids) = 39 :: (text.data.toList ++ [39]) := by
  unfold shB
  rw [showT, if_pos rfl]
  simp only [bs_app, lblS]
  rfl
theorem shB_elm {id k : Int} {tag text : ByteArray} {cl : List ByteArray} {al : List (ByteArray × ByteArray)} {sl : List (ByteArray × Int)} {kids : List STree} (hk : k ≠ 1) :
    shB (.mk id k tag text cl al sl kids) = 40 :: (tag.data.toList ++ (joinF dotB cl ++ (joinF attB al ++ (joinF styB sl ++ (joinF shB kids ++ [41]))))) := by
  have e1 : (fun c => (dotS c).data.toList) = dotB := by funext c; simp only [dotS, bs_app]; rfl
  have e2 : (fun x => (attS x).data.toList) = attB := by funext c; simp only [attS, bs_app, attB]; simp
  have e3 : (fun x => (styS x).data.toList) = styB := by funext c; simp only [styS, bs_app, styB, ito_list]; simp
  unfold shB
  rw [showT, if_neg hk, hdL, showL_map]
  simp only [bs_app, List.cons_append, joinL, joinT_app, joinT_F, lblS, e1, e2, e3]
  simp [shB]
inductive SRis : STree → Prop
  | mk {id k : Int} {tag text : ByteArray} {cl : List ByteArray} {al : List (ByteArray × ByteArray)} {sl : List (ByteArray × Int)} {kids : List STree}
    (h1 : snapF nmS al = al) (h2 : snapF nmI sl = sl) (hk : ∀ t ∈ kids, SRis t) : SRis (.mk id k tag text cl al sl kids)
theorem sam_eqS : ∀ (n : Nat) (t u : STree), SizeOf.sizeOf t < n → SRis t → SRis u → samS t u = eqS t u
  | 0, _, _, h, _, _ => by omega
  | n + 1, .mk id k tag text cl al sl kids, .mk id' k' tag' text' cl' al' sl' kids', hn, ht, hu => by
    obtain ⟨h1, h2, hk⟩ := ht
    obtain ⟨h3, h4, hk'⟩ := hu
    rw [Bool.eq_iff_iff, samS_iff, eqS_iff, h1, h2, h3, h4, samSL_iff, eqSL_iff]
    constructor
    · rintro ⟨e1, e2, e3⟩
      refine ⟨e1, e2, fun i a b ha hb => ?_⟩
      rw [← sam_eqS n a b (by have := skid_lt (id := id) (k := k) (tag := tag) (text := text) (cl := cl) (at_ := al) (st := sl) (List.mem_of_getElem? ha); omega) (hk a (List.mem_of_getElem? ha)) (hk' b (List.mem_of_getElem? hb))]
      exact e3 i a b ha hb
    · rintro ⟨e1, e2, e3⟩
      refine ⟨e1, e2, fun i a b ha hb => ?_⟩
      rw [sam_eqS n a b (by have := skid_lt (id := id) (k := k) (tag := tag) (text := text) (cl := cl) (at_ := al) (st := sl) (List.mem_of_getElem? ha); omega) (hk a (List.mem_of_getElem? ha)) (hk' b (List.mem_of_getElem? hb))]
      exact e3 i a b ha hb
theorem same_eqS {t u : STree} (ht : SRis t) (hu : SRis u) : samS t u = eqS t u := sam_eqS _ t u (Nat.lt_succ_self _) ht hu
end Go.Proofs.YtkcjkbnbblpomaaDoor
