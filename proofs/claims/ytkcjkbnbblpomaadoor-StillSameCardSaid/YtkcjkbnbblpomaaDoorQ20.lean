/- Layer 9: a tree of a view's nodes, with numbers: the program. Layer 9: trees that are the same, by the reference. -/
import Derived.Test.YtkcjkbnbblpomaaDoorQ19
import Derived.Test.YtkcjkbnbblpomaaDoorQ11
import Derived.Test.YtkcjkbnbblpomaaDoorQ12
import Derived.Test.YtkcjkbnbblpomaaDoorQ15
import Derived.Test.YtkcjkbnbblpomaaDoorQ10
set_option linter.all false
namespace Go.Proofs.YtkcjkbnbblpomaaDoor
open Go.RowKit
set_option maxRecDepth 100000
attribute [local irreducible] Go.Code.wpIn Go.wpListIn Go.Calls Gives Go.Exit.then Go.Exit.inBlock Done ObxE

theorem setS_any (l : List PrS) (k : ByteArray) (x : ByteArray) (v : Value) (w0 : World) (hv : SlT l v w0) (hl : l.length ≤ 1000) :
    Calls Tryd.prog 17 #[v, .string k, .string x] w0 (Ret fun v w => St w0 [OwT 77 (putF nmS (snapF nmS l) (k, x)) v] w) := by
  have hsl := snap_len nmS l
  refine enter Tryd.func17 rfl Tryd.ntmps17 rfl (fun a hk => ?_); have hS := St.refl w0
  (repeat' (first | (show wpListIn _ _ _ _ _ (_ :: _) _ _; first | (refine wx1 ?_; clear hk a; intro a hk) | (refine wx2 ?_ ?_ <;> (intro hp; clear hk a; intro a hk)) | (refine wx3 ?_; clear hk hS a; intro w b hS a hk) | (refine wx4 ?_; clear hk hS a; intro w hS a hk) | (refine wx5 ?_; clear hk hS a; intro w v hS a hk) | fail) | refine wx0 ?_ | (refine s_end hk ?_; clear hk a; intro a hk) | fail))
  refine sg hk (g_callO hk (hf := by kernel_rfl) (hc := ofS_any l v _ (hS.rdT hv) hl) (h := ?_)); clear hk a; rintro vs w hS1 a hk; replace hS := hS.call hS1; clear hS1
  (repeat' (first | (show wpListIn _ _ _ _ _ (_ :: _) _ _; first | (refine wx1 ?_; clear hk a; intro a hk) | (refine wx2 ?_ ?_ <;> (intro hp; clear hk a; intro a hk)) | (refine wx3 ?_; clear hk hS a; intro w b hS a hk) | (refine wx4 ?_; clear hk hS a; intro w hS a hk) | (refine wx5 ?_; clear hk hS a; intro w v hS a hk) | fail) | refine wx0 ?_ | (refine s_end hk ?_; clear hk a; intro a hk) | fail))
  refine sg hk (g_callO hk (hf := by kernel_rfl) (hc := putS_any (s := snapF nmS l) (v := vs) (L := []) ((k, x) : PrS) (hS.sub (by (repeat (first | exact Sub.nil | exact Sub.refl | refine Sub.cons (by (repeat (first | exact At.here | apply At.there))) ?_)))) (by omega) (snap_rises nmS l)) (h := ?_)); clear hk hS a; intro vr w hS a hk
  (repeat' (first | (show wpListIn _ _ _ _ _ (_ :: _) _ _; first | (refine wx1 ?_; clear hk a; intro a hk) | (refine wx2 ?_ ?_ <;> (intro hp; clear hk a; intro a hk)) | (refine wx3 ?_; clear hk hS a; intro w b hS a hk) | (refine wx4 ?_; clear hk hS a; intro w hS a hk) | (refine wx5 ?_; clear hk hS a; intro w v hS a hk) | fail) | refine wx0 ?_ | (refine s_end hk ?_; clear hk a; intro a hk) | fail))
  exact done1 hk (h := hS)

theorem styles9_any (l : List PrI) (v : Value) (w0 : World) (hv : SlT l v w0) (hl : l.length ≤ 1000) : Calls Tryd.prog 16 #[v] w0 (Ret fun v w => St w0 [OwT 78 l v] w) := by
  refine enter Tryd.func16 rfl Tryd.ntmps16 rfl (fun a hk => ?_); have hS := St.refl w0
  (repeat' (first | (show wpListIn _ _ _ _ _ (_ :: _) _ _; first | (refine wx1 ?_; clear hk a; intro a hk) | (refine wx2 ?_ ?_ <;> (intro hp; clear hk a; intro a hk)) | (refine wx3 ?_; clear hk hS a; intro w b hS a hk) | (refine wx4 ?_; clear hk hS a; intro w hS a hk) | (refine wx5 ?_; clear hk hS a; intro w v hS a hk) | fail) | refine wx0 ?_ | (refine s_end hk ?_; clear hk a; intro a hk) | fail))
  replace hS := hS.nilT 78 PrI
  replace hk := Kn.kp [3, 6, 7, 8] hk
  refine wp_for l.length (fun i v => [(3, v), (8, .int .i64 (i : Int))]) (fun i v => [OwT 78 (l.take i) v]) (fun _ _ => True) (.slice none 0 0) hk (by repeat (first | exact trivial | refine ⟨rfl, ?_⟩)) hS.sb trivial ?_
  clear hk hS a
  rintro i vo a w hi hk hS -
  by_cases hil : i < l.length
  · obtain ⟨⟨nm, x⟩, hx⟩ : ∃ x, l[i]? = some x := ⟨_, List.getElem?_eq_getElem hil⟩
    have hst : l.take (i + 1) = l.take i ++ [(nm, x)] := take_snoc hx
    have htl : (l.take i).length = i := by rw [List.length_take]; omega
    have hv1 := hS.rdT hv
    (repeat' (first | (show wpListIn _ _ _ _ _ (_ :: _) _ _; first | (refine wx1 ?_; clear hk a; intro a hk) | (refine wx2 ?_ ?_ <;> (intro hp; clear hk a; intro a hk)) | (refine wx3 ?_; clear hk hS a; intro w b hS a hk) | (refine wx4 ?_; clear hk hS a; intro w hS a hk) | (refine wx5 ?_; clear hk hS a; intro w v hS a hk) | fail) | refine wx0 ?_ | (refine s_end hk ?_; clear hk a; intro a hk) | fail))
    refine sg hk (g_bsT (xs := [((nm, x) : PrI)]) (m := 0) hk hS ?_ (hT := eT rfl) (hE := zT rfl) (hz := oT rfl)); clear hk hS a; intro w ve hS a hk
    (repeat' (first | (show wpListIn _ _ _ _ _ (_ :: _) _ _; first | (refine wx1 ?_; clear hk a; intro a hk) | (refine wx2 ?_ ?_ <;> (intro hp; clear hk a; intro a hk)) | (refine wx3 ?_; clear hk hS a; intro w b hS a hk) | (refine wx4 ?_; clear hk hS a; intro w hS a hk) | (refine wx5 ?_; clear hk hS a; intro w v hS a hk) | fail) | refine wx0 ?_ | (refine s_end hk ?_; clear hk a; intro a hk) | fail))
    rw [← hst] at hS
    exact ⟨hil, _, hk.sd, hS.sb, trivial⟩
  · have : i = l.length := by omega
    subst this
    rw [List.take_length] at hS
    (repeat' (first | (show wpListIn _ _ _ _ _ (_ :: _) _ _; first | (refine wx1 ?_; clear hk a; intro a hk) | (refine wx2 ?_ ?_ <;> (intro hp; clear hk a; intro a hk)) | (refine wx3 ?_; clear hk hS a; intro w b hS a hk) | (refine wx4 ?_; clear hk hS a; intro w hS a hk) | (refine wx5 ?_; clear hk hS a; intro w v hS a hk) | fail) | refine wx0 ?_ | (refine s_end hk ?_; clear hk a; intro a hk) | fail))
    exact done1 hk (h := hS.sb)

set_option maxHeartbeats 4000000 in
theorem from9_any : ∀ (n : Nat) (t : Tree) (h : NdH) (nx : Int) (w0 : World), SizeOf.sizeOf t < n → Fits t → 0 ≤ nx → nx + (cnt t : Int) ≤ 1000000 → TrR w0 t h →
    Calls Tryd.prog 5 #[ndV h, .int .i64 nx] w0 (Ret fun u w => ∃ hd, u = .tuple #[snV hd, .int .i64 (nx + (cnt t : Int))] ∧ St w0 [streeR (frm t nx) hd] w)
  | 0, _, _, _, _, hn, _, _, _, _ => by omega
  | n + 1, t, h, nx, w0, hn, hf, hn0, hn1, hr => by
    have ih := from9_any n
    obtain ⟨k, tag, key, text, cl, al, sl, e, lv, m, d, p, q, kids, a1, m1, a2, m2, a3, m3, a4, m4, H, rfl, rfl, c1, c2, c3, c4, hF⟩ := hr.split
    obtain ⟨l1, l2, l3, l4, l5⟩ := hf
    have hHk : H.length = kids.length := hF.1
    have hsl := snap_len nmI sl
    rw [cnt] at hn1 ⊢
    rw [frm]
    show Calls Tryd.prog 5 #[.agg #[.int .i64 k, .string tag, .string key, .string text, .slice a1 cl.length m1, .slice a2 al.length m2, .slice a3 sl.length m3, .int .i64 e, .int .i64 lv, .int .i64 m, .int .i64 d, .bool p, .bool q, .slice a4 H.length m4], .int .i64 nx] w0 _
    refine enter Tryd.func5 rfl Tryd.ntmps5 rfl (fun a hk => ?_); have hS := St.refl w0
    (repeat' (first | (show wpListIn _ _ _ _ _ (_ :: _) _ _; first | (refine wx1 ?_; clear hk a; intro a hk) | (refine wx2 ?_ ?_ <;> (intro hp; clear hk a; intro a hk)) | (refine wx3 ?_; clear hk hS a; intro w b hS a hk) | (refine wx4 ?_; clear hk hS a; intro w hS a hk) | (refine wx5 ?_; clear hk hS a; intro w v hS a hk) | fail) | refine wx0 ?_ | (refine s_end hk ?_; clear hk a; intro a hk) | fail))
    rename_i b2
    rename Nat => b4
    refine wp_drawn 18 mixed (by kernel_rfl) hk hS ?_; clear hk hS a
    (repeat' (first | (show ObxE _ _ _ _ _ _ _ _ _ (_ :: _) _ _ _; first | refine ox1 ?_ | (refine ox2 ?_ ?_ <;> intro hp) | fail) | fail))
    refine' obe_res (fun us a w hk hd hS => ?_) ?_; rotate_left; focus (have hk := Kn.vw hk (by repeat (first | exact VW.nil | apply VW.val rfl | apply VW.base rfl rfl | apply VW.res rfl | apply VW.upd rfl | apply VW.cpy rfl | apply VW.dep rfl | apply VW.fn rfl | apply VW.lnd rfl | apply VW.tak rfl)); exact v_bs0 (hT := eT rfl) (hE := zT rfl))
    (repeat' (first | (show ObxE _ _ _ _ _ _ _ _ _ (_ :: _) _ _ _; first | refine ox1 ?_ | (refine ox2 ?_ ?_ <;> intro hp) | fail) | fail))
    refine' obe_res (fun us a w hk hd hS => ?_) ?_; rotate_left; focus (have hk := Kn.vw hk (by repeat (first | exact VW.nil | apply VW.val rfl | apply VW.base rfl rfl | apply VW.res rfl | apply VW.upd rfl | apply VW.cpy rfl | apply VW.dep rfl | apply VW.fn rfl | apply VW.lnd rfl | apply VW.tak rfl)); exact v_appR (ys := cl) hk hd.1 (hT := eT rfl) (hTx := eT rfl) (hE := zT rfl) (hz := oT rfl) (hzs := rfl) (hs := hS.rdT c1) (hby := bT rfl) (hbytes := by omega) (h63 := by simp only [maxLen]; omega))
    (repeat' (first | (show ObxE _ _ _ _ _ _ _ _ _ (_ :: _) _ _ _; first | refine ox1 ?_ | (refine ox2 ?_ ?_ <;> intro hp) | fail) | fail))
    refine' obe_res (fun us a w hk hd hS => ?_) ?_; rotate_left; focus (have hk := Kn.vw hk (by repeat (first | exact VW.nil | apply VW.val rfl | apply VW.base rfl rfl | apply VW.res rfl | apply VW.upd rfl | apply VW.cpy rfl | apply VW.dep rfl | apply VW.fn rfl | apply VW.lnd rfl | apply VW.tak rfl)); exact g_callO hk (hf := by kernel_rfl) (hc := styles9_any sl _ _ (hS.rdT c3) (by omega)) (h := fun _ _ h => h))
    refine' obe_res (V := OwT 78 (snapF nmI sl)) (fun us a w hk hd hS => ?_) ?_
    · have hk := Kn.vw hk (by repeat (first | exact VW.nil | apply VW.val rfl | apply VW.base rfl rfl | apply VW.res rfl | apply VW.upd rfl | apply VW.cpy rfl | apply VW.dep rfl | apply VW.fn rfl | apply VW.lnd rfl | apply VW.tak rfl))
      have h1 : (OwT 78 sl (us 14)).rd w := hd.1
      simp only [Nat.zero_add, Nat.reduceAdd] at hk
      exact g_callO hk (hf := by kernel_rfl) (hc := ofI_any sl _ _ (OwT.rd h1) (by omega)) (h := fun _ _ h => h)
    refine' obe_fn [11, 15] (fun l => .agg #[.int .i64 nx, .int .i64 (min k 2), .string tag, .string text, l.getD 0 undef, .slice none 0 0, l.getD 1 undef, .slice none 0 0]) (fun us a w hk hd hS => ?_) ?_ (by intro k e; simp only [List.mem_cons, List.not_mem_nil, or_false] at e; rcases e with rfl | rfl; exact ⟨24, _, rfl, rfl⟩; exact ⟨28, _, rfl, rfl⟩)
    · have hk := Kn.vw hk (by repeat (first | exact VW.nil | apply VW.val rfl | apply VW.base rfl rfl | apply VW.res rfl | apply VW.upd rfl | apply VW.cpy rfl | apply VW.dep rfl | apply VW.fn rfl | apply VW.lnd rfl | apply VW.tak rfl))
      have h1 : (appH 9 cl (us 11)).rd w := hd.2.2.2.2.1
      have h2 : (OwT 78 (snapF nmI sl) (us 15)).rd w := hd.2.2.2.2.2.1
      obtain ⟨_, _, e1, _⟩ := (appH.rd h1).shape
      obtain ⟨_, _, e2, _⟩ := (OwT.rd h2).shape
      simp only [Nat.zero_add, Nat.reduceAdd] at hk
      simp only [List.map, List.getD_cons_zero, List.getD_cons_succ]
      rw [e1, e2] at hk ⊢
      exact g_build hk ⟨rfl, St.refl w⟩ (fsT rfl) (oT rfl)
    refine' obe_res (fun us a w hk hd hS => ?_) ?_; rotate_left; focus (have hk := Kn.vw hk (by repeat (first | exact VW.nil | apply VW.val rfl | apply VW.base rfl rfl | apply VW.res rfl | apply VW.upd rfl | apply VW.cpy rfl | apply VW.dep rfl | apply VW.fn rfl | apply VW.lnd rfl | apply VW.tak rfl)); exact v_alloc hk (oT rfl))
    refine obe_nil ⟨rfl, ?_⟩; intro us a w hk hS
    simp only [resE, List.cons_append, List.nil_append, Nat.zero_add, Nat.reduceAdd] at hS
    obtain ⟨b6, hb6, hS1⟩ := hS.ptv (by (repeat (first | exact At.here | apply At.there))); replace hS := hS1; clear hS1
    replace hk := Kn.kp [1, 2, 4, 6, 29] hk
    simp only [HV.of, List.map, List.getD_cons_zero, List.getD_cons_succ, Nat.zero_add, Nat.reduceAdd] at hk
    generalize us 11 = v24 at hS hk
    generalize us 15 = v28 at hS hk
    rw [hb6] at hk
    obtain ⟨a24, m24, rfl, _⟩ := (appH.rd (hS.rd (A := appH 9 cl v24) (by (repeat (first | exact At.here | apply At.there))))).shape
    obtain ⟨aov28, cv28, hshp, _⟩ := (OwT.rd (hS.rd (A := OwT 78 _ v28) (by (repeat (first | exact At.here | apply At.there))))).shape; subst hshp
    (repeat' (first | (show wpListIn _ _ _ _ _ (_ :: _) _ _; first | (refine wx1 ?_; clear hk a; intro a hk) | (refine wx2 ?_ ?_ <;> (intro hp; clear hk a; intro a hk)) | (refine wx3 ?_; clear hk hS a; intro w b hS a hk) | (refine wx4 ?_; clear hk hS a; intro w hS a hk) | (refine wx5 ?_; clear hk hS a; intro w v hS a hk) | fail) | refine wx0 ?_ | (refine s_end hk ?_; clear hk a; intro a hk) | fail))
    replace hS := hS.nilT 77 PrS
    replace hk := Kn.kp [1, 2, 4, 6, 31, 32, 33] hk
    refine wp_for al.length (fun i _ => [(33, .int .i64 (i : Int))]) (fun i v => [OwT 77 (snapF nmS (al.take i)) (.slice v.1 (snapF nmS (al.take i)).length v.2), pts b6 [.int .i64 nx, .int .i64 (min k 2), .string tag, .string text, .slice a24 cl.length m24, .slice v.1 (snapF nmS (al.take i)).length v.2, .slice aov28 (snapF nmI sl).length cv28, .slice none 0 0] 31, OwT 78 (snapF nmI sl) (.slice aov28 (snapF nmI sl).length cv28), appH 9 cl (.slice a24 cl.length m24), pts b2 [.int .i64 k, .string tag, .string key, .string text, .slice a1 cl.length m1, .slice a2 al.length m2, .slice a3 sl.length m3, .int .i64 e, .int .i64 lv, .int .i64 m, .int .i64 d, .bool p, .bool q, .slice a4 H.length m4] 40, pts b4 [.int .i64 0, .int .i64 0, .string ⟨#[]⟩, .string ⟨#[]⟩, .slice none 0 0, .slice none 0 0, .slice none 0 0, .slice none 0 0] 31]) (fun _ _ => True) ((none, 0) : Option Addr × Nat) hk (by repeat (first | exact trivial | refine ⟨rfl, ?_⟩)) hS.sb trivial ?_
    clear hk hS a
    rintro i ⟨ao, c⟩ a w hi hk hS -
    by_cases hil : i < al.length
    · obtain ⟨⟨nm, val⟩, hx⟩ : ∃ x, al[i]? = some x := ⟨_, List.getElem?_eq_getElem hil⟩
      have hst : putF nmS (snapF nmS (snapF nmS (al.take i))) (nm, val) = snapF nmS (al.take (i + 1)) := by rw [snap_snap, take_snoc hx, snap_snoc]
      have htl := snap_len nmS (al.take i)
      rw [List.length_take] at htl
      have hv1 := hS.rdT c2
      simp only at hS hk
      (repeat' (first | (show wpListIn _ _ _ _ _ (_ :: _) _ _; first | (refine wx1 ?_; clear hk a; intro a hk) | (refine wx2 ?_ ?_ <;> (intro hp; clear hk a; intro a hk)) | (refine wx3 ?_; clear hk hS a; intro w b hS a hk) | (refine wx4 ?_; clear hk hS a; intro w hS a hk) | (refine wx5 ?_; clear hk hS a; intro w v hS a hk) | fail) | refine wx0 ?_ | (refine s_end hk ?_; clear hk a; intro a hk) | fail))
      refine sg hk (g_callO hk (hf := by kernel_rfl) (hc := setS_any (snapF nmS (al.take i)) nm val _ _ (by first | exact St.rdT hS (by assumption) | exact OwT.rd (hS.rd (A := OwT _ _ _) (by (repeat (first | exact At.here | apply At.there)))) | assumption) (by omega)) (h := ?_)); clear hk a; rintro vn w hS1 a hk; replace hS := hS.call hS1; clear hS1
      rw [hst] at hS
      obtain ⟨aovn, cvn, hshp, _⟩ := (OwT.rd (hS.rd (A := OwT 77 _ vn) (by (repeat (first | exact At.here | apply At.there))))).shape; subst hshp
      (repeat' (first | (show wpListIn _ _ _ _ _ (_ :: _) _ _; first | (refine wx1 ?_; clear hk a; intro a hk) | (refine wx2 ?_ ?_ <;> (intro hp; clear hk a; intro a hk)) | (refine wx3 ?_; clear hk hS a; intro w b hS a hk) | (refine wx4 ?_; clear hk hS a; intro w hS a hk) | (refine wx5 ?_; clear hk hS a; intro w v hS a hk) | fail) | refine wx0 ?_ | (refine s_end hk ?_; clear hk a; intro a hk) | fail))
      exact ⟨hil, (aovn, cvn), hk.sd, hS.sub (by (repeat (first | exact Sub.nil | exact Sub.refl | refine Sub.cons (by (repeat (first | exact At.here | apply At.there))) ?_))), trivial⟩
    · have : i = al.length := by omega
      subst this
      rw [List.take_length] at hS
      simp only at hS hk
      have c4' := hS.rdT c4
      have hF' := hS.rdFo hF
      (repeat' (first | (show wpListIn _ _ _ _ _ (_ :: _) _ _; first | (refine wx1 ?_; clear hk a; intro a hk) | (refine wx2 ?_ ?_ <;> (intro hp; clear hk a; intro a hk)) | (refine wx3 ?_; clear hk hS a; intro w b hS a hk) | (refine wx4 ?_; clear hk hS a; intro w hS a hk) | (refine wx5 ?_; clear hk hS a; intro w v hS a hk) | fail) | refine wx0 ?_ | (refine s_end hk ?_; clear hk a; intro a hk) | fail))
      replace hS := sforR.nil (hS.nilT 31 SnH)
      replace hk := Kn.kp [1, 4, 6, 49, 50, 51] hk
      rw [show nx + 1 = nx + 1 + (cntL (kids.take 0) : Int) by simp [cntL]] at hk
      refine wp_for H.length (fun j _ => [(1, .int .i64 (nx + 1 + (cntL (kids.take j) : Int))), (51, .int .i64 (j : Int))]) (fun j v => [sforR (frmL (kids.take j) (nx + 1)) (v.2 : List SnH), OwT 31 v.2 (.slice v.1.1 j v.1.2), pts b6 [.int .i64 nx, .int .i64 (min k 2), .string tag, .string text, .slice a24 cl.length m24, .slice ao (snapF nmS al).length c, .slice aov28 (snapF nmI sl).length cv28, .slice v.1.1 j v.1.2] 31, OwT 77 (snapF nmS al) (.slice ao (snapF nmS al).length c), OwT 78 (snapF nmI sl) (.slice aov28 (snapF nmI sl).length cv28), appH 9 cl (.slice a24 cl.length m24), pts b4 [.int .i64 0, .int .i64 0, .string ⟨#[]⟩, .string ⟨#[]⟩, .slice none 0 0, .slice none 0 0, .slice none 0 0, .slice none 0 0] 31]) (fun _ _ => True) (((none, 0), []) : (Option Addr × Nat) × List SnH) hk (by repeat (first | exact trivial | refine ⟨rfl, ?_⟩)) (hS.sub (by (repeat (first | exact Sub.nil | exact Sub.refl | refine Sub.cons (by (repeat (first | exact At.here | apply At.there))) ?_)))) trivial ?_
      clear hk hS a
      rintro j ⟨⟨ak, ck⟩, H'⟩ a w hj hk hS -
      have hFH := hS.soR .here
      have hkl : (frmL (kids.take j) (nx + 1)).length = j := by rw [frmL_len, List.length_take, ← hF.1]; omega
      have hHl : H'.length = j := by rw [hFH.1, hkl]
      by_cases hjl : j < H.length
      · obtain ⟨tk, htk⟩ : ∃ t, kids[j]? = some t := ⟨_, List.getElem?_eq_getElem (by rw [← hF.1]; exact hjl)⟩
        obtain ⟨hd0, hx⟩ : ∃ x, H[j]? = some x := ⟨_, List.getElem?_eq_getElem hjl⟩
        have hTr := hF.2 j tk hd0 htk hx
        have hfk := l5 tk (List.mem_of_getElem? htk)
        have hlt : SizeOf.sizeOf tk < n := by have := kid_lt (k := k) (tag := tag) (key := key) (text := text) (cl := cl) (at_ := al) (st := sl) (o := (e, lv, m, d, p, q)) (List.mem_of_getElem? htk); omega
        have hct : cntL (kids.take (j + 1)) = cntL (kids.take j) + cnt tk := by rw [take_snoc htk, cntL_app]; simp [cntL]
        have hcl : cntL (kids.take (j + 1)) ≤ cntL kids := by
          have e1 := cntL_app (kids.take (j + 1)) (kids.drop (j + 1))
          rw [List.take_append_drop] at e1
          omega
        have hst : frmL (kids.take (j + 1)) (nx + 1) = frmL (kids.take j) (nx + 1) ++ [frm tk (nx + 1 + (cntL (kids.take j) : Int))] := by rw [take_snoc htk, frmL_snoc]
        have c4'' := hS.rdT c4
        simp only at hS hk
        obtain ⟨k', tag', key', text', ⟨x1, x2, x3⟩, ⟨y1, y2, y3⟩, ⟨z1, z2, z3⟩, ⟨e', lv', m', d', p', q'⟩, ⟨u1, u2, u3⟩⟩ := hd0
        have hnx : nx + 1 + (cntL (kids.take (j + 1)) : Int) = nx + 1 + (cntL (kids.take j) : Int) + (cnt tk : Int) := by rw [hct]; omega
        generalize hN : nx + 1 + (cntL (kids.take j) : Int) = N at hk hst hnx
        (repeat' (first | (show wpListIn _ _ _ _ _ (_ :: _) _ _; first | (refine wx1 ?_; clear hk a; intro a hk) | (refine wx2 ?_ ?_ <;> (intro hp; clear hk a; intro a hk)) | (refine wx3 ?_; clear hk hS a; intro w b hS a hk) | (refine wx4 ?_; clear hk hS a; intro w hS a hk) | (refine wx5 ?_; clear hk hS a; intro w v hS a hk) | fail) | refine wx0 ?_ | (refine s_end hk ?_; clear hk a; intro a hk) | fail))
        refine sg hk (g_callO hk (hf := by kernel_rfl) (hc := ih tk (k', tag', key', text', ⟨x1, x2, x3⟩, ⟨y1, y2, y3⟩, ⟨z1, z2, z3⟩, (e', lv', m', d', p', q'), ⟨u1, u2, u3⟩) N _ hlt hfk (by omega) (by omega) (hS.rdTr hTr)) (h := ?_)); clear hk a; rintro vr w ⟨hd1, rfl, hS1⟩ a hk; replace hS := hS.call hS1; clear hS1
        rw [List.cons_append, List.nil_append] at hS
        rw [← hnx] at hk
        obtain ⟨id2, k2, tag2, text2, ⟨x12, x22, x32⟩, ⟨y12, y22, y32⟩, ⟨z12, z22, z32⟩, ⟨u12, u22, u32⟩⟩ := hd1
        (repeat' (first | (show wpListIn _ _ _ _ _ (_ :: _) _ _; first | (refine wx1 ?_; clear hk a; intro a hk) | (refine wx2 ?_ ?_ <;> (intro hp; clear hk a; intro a hk)) | (refine wx3 ?_; clear hk hS a; intro w b hS a hk) | (refine wx4 ?_; clear hk hS a; intro w hS a hk) | (refine wx5 ?_; clear hk hS a; intro w v hS a hk) | fail) | refine wx0 ?_ | (refine s_end hk ?_; clear hk a; intro a hk) | fail))
        refine sg hk (g_bsT (xs := [((id2, k2, tag2, text2, ⟨x12, x22, x32⟩, ⟨y12, y22, y32⟩, ⟨z12, z22, z32⟩, ⟨u12, u22, u32⟩) : SnH)]) (m := 0) hk hS ?_ (hT := eT rfl) (hE := zT rfl) (hz := oT rfl)); clear hk hS a; intro w ve hS a hk
        (repeat' (first | (show wpListIn _ _ _ _ _ (_ :: _) _ _; first | (refine wx1 ?_; clear hk a; intro a hk) | (refine wx2 ?_ ?_ <;> (intro hp; clear hk a; intro a hk)) | (refine wx3 ?_; clear hk hS a; intro w b hS a hk) | (refine wx4 ?_; clear hk hS a; intro w hS a hk) | (refine wx5 ?_; clear hk hS a; intro w v hS a hk) | fail) | refine wx0 ?_ | (refine s_end hk ?_; clear hk a; intro a hk) | fail))
        generalize hHD : ((id2, k2, tag2, text2, ⟨x12, x22, x32⟩, ⟨y12, y22, y32⟩, ⟨z12, z22, z32⟩, ⟨u12, u22, u32⟩) : SnH) = hd1 at hS
        have hl1 : (H' ++ [hd1]).length = j + 1 := by rw [List.length_append, hHl]; rfl
        rename Value => vn
        obtain ⟨aovn, cvn, hshp, _⟩ := (OwT.rd (hS.rd (A := OwT 31 _ vn) (by (repeat (first | exact At.here | apply At.there))))).shape; subst hshp
        rw [hl1] at hS hk
        (repeat' (first | (show wpListIn _ _ _ _ _ (_ :: _) _ _; first | (refine wx1 ?_; clear hk a; intro a hk) | (refine wx2 ?_ ?_ <;> (intro hp; clear hk a; intro a hk)) | (refine wx3 ?_; clear hk hS a; intro w b hS a hk) | (refine wx4 ?_; clear hk hS a; intro w hS a hk) | (refine wx5 ?_; clear hk hS a; intro w v hS a hk) | fail) | refine wx0 ?_ | (refine s_end hk ?_; clear hk a; intro a hk) | fail))
        have hS1 := sforR.snoc (L := [OwT 31 (H' ++ [hd1]) (.slice aovn (j + 1) cvn), pts b6 [.int .i64 nx, .int .i64 (min k 2), .string tag, .string text, .slice a24 cl.length m24, .slice ao (snapF nmS al).length c, .slice aov28 (snapF nmI sl).length cv28, .slice aovn (j + 1) cvn] 31, OwT 77 (snapF nmS al) (.slice ao (snapF nmS al).length c), OwT 78 (snapF nmI sl) (.slice aov28 (snapF nmI sl).length cv28), appH 9 cl (.slice a24 cl.length m24), pts b4 [.int .i64 0, .int .i64 0, .string ⟨#[]⟩, .string ⟨#[]⟩, .slice none 0 0, .slice none 0 0, .slice none 0 0, .slice none 0 0] 31])  (ts := frmL (kids.take j) (nx + 1)) (H := H') (t := frm tk N) (h := hd1) (hS.sub (by (repeat (first | exact Sub.nil | exact Sub.refl | refine Sub.cons (by (repeat (first | exact At.here | apply At.there))) ?_))))
        rw [← hst] at hS1
        exact ⟨hjl, ((aovn, cvn), H' ++ [hd1]), hk.sd, hS1, trivial⟩
      · have hjj : j = kids.length := by have := hF.1; omega
        subst hjj
        rw [List.take_length] at hS hk
        simp only at hS hk
        have hnn : nx + 1 + (cntL kids : Int) = nx + ((cntL kids + 1 : Nat) : Int) := by omega
        rw [hnn] at hk
        (repeat' (first | (show wpListIn _ _ _ _ _ (_ :: _) _ _; first | (refine wx1 ?_; clear hk a; intro a hk) | (refine wx2 ?_ ?_ <;> (intro hp; clear hk a; intro a hk)) | (refine wx3 ?_; clear hk hS a; intro w b hS a hk) | (refine wx4 ?_; clear hk hS a; intro w hS a hk) | (refine wx5 ?_; clear hk hS a; intro w v hS a hk) | fail) | refine wx0 ?_ | (refine s_end hk ?_; clear hk a; intro a hk) | fail))
        exact done2R hk rfl (.str hS (hT := aT rfl) (hs := zT rfl)) (.tmp rfl) (h := ⟨(nx, min k 2, tag, text, ⟨a24, cl.length, m24⟩, ⟨ao, (snapF nmS al).length, c⟩, ⟨aov28, (snapF nmI sl).length, cv28⟩, ⟨ak, kids.length, ck⟩), rfl, streeR.of (A1 := appH 9 cl (.slice a24 cl.length m24)) (A2 := OwT 77 (snapF nmS al) (.slice ao (snapF nmS al).length c)) (A3 := OwT 78 (snapF nmI sl) (.slice aov28 (snapF nmI sl).length cv28)) (A4 := OwT 31 H' (.slice ak kids.length ck)) (hS.sub (by (repeat (first | exact Sub.nil | exact Sub.refl | refine Sub.cons (by (repeat (first | exact At.here | apply At.there))) ?_))))⟩)
end Go.Proofs.YtkcjkbnbblpomaaDoor
namespace Go.Proofs.YtkcjkbnbblpomaaDoor
open Go.RowKit
set_option maxRecDepth 100000
attribute [local irreducible] Go.Code.wpIn Go.wpListIn Go.Calls Gives Go.Exit.then Go.Exit.inBlock Done ObxE

abbrev rtreeV (id k : Int) (tag text : ByteArray) (a1 : Option Addr) (n1 m1 : Nat) (a2 : Option Addr) (n2 m2 : Nat) (a3 : Option Addr) (n3 m3 : Nat) (a4 : Option Addr) (n4 m4 : Nat) : Value :=
  .agg #[.int .i64 id, .int .i64 k, .string tag, .string text, .slice a1 n1 m1, .slice a2 n2 m2, .slice a3 n3 m3, .slice a4 n4 m4]
set_option maxHeartbeats 8000000 in
theorem sameR9_any : ∀ (n : Nat) (t u : STree) (h g : SnH) (w0 : World), SizeOf.sizeOf t < n → SFits t → SFits u → SrR w0 t h → SrR w0 u g → Calls Tryd.prog 8 #[snV h, snV g] w0 (Ret fun v w => v = .bool (eqS t u) ∧ St w0 [] w)
  | 0, _, _, _, _, _, hn, _, _, _, _ => by omega
  | n + 1, t, u, h, g, w0, hn, hf, hf', hr, hr' => by
    have ih := sameR9_any n
    obtain ⟨id, k, tag, text, cl, al, sl, kids, a1, m1, a2, m2, a3, m3, a4, m4, H, rfl, rfl, c1, c2, c3, c4, hF⟩ := hr.split
    obtain ⟨id', k', tag', text', cl', al', sl', kids', b1', n1, b2', n2, b3', n3, b4', n4, G, rfl, rfl, g1, g2, g3, g4, hG⟩ := hr'.split
    obtain ⟨l1, l2, l3, l4, l5⟩ := hf
    obtain ⟨l1', l2', l3', l4', l5'⟩ := hf'
    have hHk : H.length = kids.length := hF.1
    have hGk : G.length = kids'.length := hG.1
    show Calls Tryd.prog 8 #[rtreeV id k tag text a1 cl.length m1 a2 al.length m2 a3 sl.length m3 a4 H.length m4, rtreeV id' k' tag' text' b1' cl'.length n1 b2' al'.length n2 b3' sl'.length n3 b4' G.length n4] w0 _
    have hiff := eqS_iff (id := id) (id' := id') (k := k) (k' := k') (tag := tag) (tag' := tag') (text := text) (text' := text') (cl := cl) (cl' := cl') (al := al) (al' := al') (sl := sl) (sl' := sl') (kids := kids) (kids' := kids')
    rw [eqSL_iff] at hiff
    refine enter Tryd.func8 rfl Tryd.ntmps8 rfl (fun a hk => ?_); have hS := St.refl w0
    refine wpIn_seq ?_; refine wpIn_region_lit ?_
    refine st_box hk hS ?_; clear hk hS a; intro w b1 hS a hk
    refine st_box hk hS ?_; clear hk hS a; intro w b2 hS a hk
    (repeat' (first | (show wpListIn _ _ _ _ _ (_ :: _) _ _; first | (refine wx1 ?_; clear hk a; intro a hk) | (refine wx2 ?_ ?_ <;> (intro hp; clear hk a; intro a hk)) | (refine wx3 ?_; clear hk hS a; intro w b hS a hk) | (refine wx4 ?_; clear hk hS a; intro w hS a hk) | (refine wx5 ?_; clear hk hS a; intro w v hS a hk) | fail) | refine wx0 ?_ | (refine s_end hk ?_; clear hk a; intro a hk) | fail))
    rotate_left
    all_goals try (
      refine done1 hk (h := ⟨congrArg Value.bool (eqS_false fun hh => ?_).symm, hS.nil⟩)
      obtain ⟨⟨q1, q2, q3, q4, q5, q6⟩, q9, q10⟩ := hiff.1 hh
      first
        | exact absurd q1 (by assumption)
        | exact absurd q2 (by assumption)
        | exact absurd q3 (by assumption)
        | (have := congrArg List.length q4; omega)
        | (have := congrArg List.length q5; omega)
        | (have := congrArg List.length q6; omega)
        | omega)
    have hlc : cl.length = cl'.length := by omega
    have hla : al.length = al'.length := by omega
    have hls : sl.length = sl'.length := by omega
    have hlk : H.length = G.length := by omega
    have hb1 : k = k' := by assumption
    have hb2 : tag = tag' := by assumption
    have hb4 : text = text' := by assumption
    replace hk := Kn.kp [2, 3, 66, 67] hk
    refine wp_for cl.length (fun i _ => [(67, .int .i64 (i : Int))]) (fun _ _ => [pts b2 [.int .i64 id', .int .i64 k', .string tag', .string text', .slice b1' cl'.length n1, .slice b2' al'.length n2, .slice b3' sl'.length n3, .slice b4' G.length n4] 46, pts b1 [.int .i64 id, .int .i64 k, .string tag, .string text, .slice a1 cl.length m1, .slice a2 al.length m2, .slice a3 sl.length m3, .slice a4 H.length m4] 46]) (fun i _ => ∀ j, j < i → cl[j]? = cl'[j]?) () hk (by repeat (first | exact trivial | refine ⟨rfl, ?_⟩)) hS.sb (fun j hj => by omega) ?_
    clear hk hS a
    rintro i - a w hi hk hS hEq
    by_cases hil : i < cl.length
    · obtain ⟨x, hx⟩ : ∃ x, cl[i]? = some x := ⟨_, List.getElem?_eq_getElem hil⟩
      obtain ⟨y, hy⟩ : ∃ y, cl'[i]? = some y := ⟨_, List.getElem?_eq_getElem (by omega)⟩
      have hv1 := hS.rdT c1
      have hv2 := hS.rdT g1
      (repeat' (first | (show wpListIn _ _ _ _ _ (_ :: _) _ _; first | (refine wx1 ?_; clear hk a; intro a hk) | (refine wx2 ?_ ?_ <;> (intro hp; clear hk a; intro a hk)) | (refine wx3 ?_; clear hk hS a; intro w b hS a hk) | (refine wx4 ?_; clear hk hS a; intro w hS a hk) | (refine wx5 ?_; clear hk hS a; intro w v hS a hk) | fail) | refine wx0 ?_ | (refine s_end hk ?_; clear hk a; intro a hk) | fail))
      refine wp_drawn 10 mixed (by kernel_rfl) hk hS ?_; clear hk hS a
      (repeat' (first | (show ObxE _ _ _ _ _ _ _ _ _ (_ :: _) _ _ _; first | refine ox1 ?_ | (refine ox2 ?_ ?_ <;> intro hp) | fail) | fail))
      all_goals (
        refine obe_nil ⟨rfl, ?_⟩; intro us a w hk hS
        (repeat' (first | (show wpListIn _ _ _ _ _ (_ :: _) _ _; first | (refine wx1 ?_; clear hk a; intro a hk) | (refine wx2 ?_ ?_ <;> (intro hp; clear hk a; intro a hk)) | (refine wx3 ?_; clear hk hS a; intro w b hS a hk) | (refine wx4 ?_; clear hk hS a; intro w hS a hk) | (refine wx5 ?_; clear hk hS a; intro w v hS a hk) | fail) | refine wx0 ?_ | (refine s_end hk ?_; clear hk a; intro a hk) | fail)))
      · have he : x = y := by assumption
        refine ⟨hil, (), hk.sd, hS.sb, fun j hj => ?_⟩
        by_cases e : j = i
        · subst e; rw [hx, hy, he]
        · exact hEq j (by omega)
      · have he : ¬ x = y := by assumption
        refine done1 hk (h := ⟨congrArg Value.bool (eqS_false fun hh => ?_).symm, hS.nil⟩)
        obtain ⟨⟨q1, q2, q3, q4, q5, q6⟩, q9, q10⟩ := hiff.1 hh
        rw [q4, hy] at hx
        exact he (Option.some.inj hx).symm
    · have : i = cl.length := by omega
      subst this
      have hcl : cl = cl' := List.ext_getElem? fun j => by
        by_cases hj : j < cl.length
        · exact hEq j hj
        · rw [List.getElem?_eq_none (by omega), List.getElem?_eq_none (by omega)]
      (repeat' (first | (show wpListIn _ _ _ _ _ (_ :: _) _ _; first | (refine wx1 ?_; clear hk a; intro a hk) | (refine wx2 ?_ ?_ <;> (intro hp; clear hk a; intro a hk)) | (refine wx3 ?_; clear hk hS a; intro w b hS a hk) | (refine wx4 ?_; clear hk hS a; intro w hS a hk) | (refine wx5 ?_; clear hk hS a; intro w v hS a hk) | fail) | refine wx0 ?_ | (refine s_end hk ?_; clear hk a; intro a hk) | fail))
      replace hk := Kn.kp [2, 3, 84, 85] hk
      refine wp_for al.length (fun i _ => [(85, .int .i64 (i : Int))]) (fun _ _ => [pts b2 [.int .i64 id', .int .i64 k', .string tag', .string text', .slice b1' cl'.length n1, .slice b2' al'.length n2, .slice b3' sl'.length n3, .slice b4' G.length n4] 46, pts b1 [.int .i64 id, .int .i64 k, .string tag, .string text, .slice a1 cl.length m1, .slice a2 al.length m2, .slice a3 sl.length m3, .slice a4 H.length m4] 46]) (fun i _ => ∀ j, j < i → al[j]? = al'[j]?) () hk (by repeat (first | exact trivial | refine ⟨rfl, ?_⟩)) hS.sb (fun j hj => by omega) ?_
      clear hk hS a
      rintro i - a w hi hk hS hEq1
      by_cases hil : i < al.length
      · obtain ⟨⟨nm, val⟩, hx⟩ : ∃ x, al[i]? = some x := ⟨_, List.getElem?_eq_getElem hil⟩
        obtain ⟨⟨nm', val'⟩, hy⟩ : ∃ y, al'[i]? = some y := ⟨_, List.getElem?_eq_getElem (by omega)⟩
        have hv1 := hS.rdT c2
        have hv2 := hS.rdT g2
        (repeat' (first | (show wpListIn _ _ _ _ _ (_ :: _) _ _; first | (refine wx1 ?_; clear hk a; intro a hk) | (refine wx2 ?_ ?_ <;> (intro hp; clear hk a; intro a hk)) | (refine wx3 ?_; clear hk hS a; intro w b hS a hk) | (refine wx4 ?_; clear hk hS a; intro w hS a hk) | (refine wx5 ?_; clear hk hS a; intro w v hS a hk) | fail) | refine wx0 ?_ | (refine s_end hk ?_; clear hk a; intro a hk) | fail))
        refine wp_drawn 10 mixed (by kernel_rfl) hk hS ?_; clear hk hS a
        (repeat' (first | (show ObxE _ _ _ _ _ _ _ _ _ (_ :: _) _ _ _; first | refine ox1 ?_ | (refine ox2 ?_ ?_ <;> intro hp) | fail) | fail))
        all_goals (
          refine obe_nil ⟨rfl, ?_⟩; intro us a w hk hS
          (repeat' (first | (show wpListIn _ _ _ _ _ (_ :: _) _ _; first | (refine wx1 ?_; clear hk a; intro a hk) | (refine wx2 ?_ ?_ <;> (intro hp; clear hk a; intro a hk)) | (refine wx3 ?_; clear hk hS a; intro w b hS a hk) | (refine wx4 ?_; clear hk hS a; intro w hS a hk) | (refine wx5 ?_; clear hk hS a; intro w v hS a hk) | fail) | refine wx0 ?_ | (refine s_end hk ?_; clear hk a; intro a hk) | fail)))
        · have he : (nm, val) = (nm', val') := by
            have := eqC_enc (α := PrS) (x := (nm, val)) (y := (nm', val')) (b := true) (by assumption)
            rwa [if_pos rfl] at this
          refine ⟨hil, (), hk.sd, hS.sb, fun j hj => ?_⟩
          by_cases e : j = i
          · subst e; rw [hx, hy, he]
          · exact hEq1 j (by omega)
        · have he : ¬ (nm, val) = (nm', val') := by
            have := eqC_enc (α := PrS) (x := (nm, val)) (y := (nm', val')) (b := false) (by assumption)
            rwa [if_neg (by decide)] at this
          refine done1 hk (h := ⟨congrArg Value.bool (eqS_false fun hh => ?_).symm, hS.nil⟩)
          obtain ⟨⟨q1, q2, q3, q4, q5, q6⟩, q9, q10⟩ := hiff.1 hh
          rw [q5, hy] at hx
          exact he (Option.some.inj hx).symm
      · have : i = al.length := by omega
        subst this
        have hcS : al = al' := List.ext_getElem? fun j => by
          by_cases hj : j < al.length
          · exact hEq1 j hj
          · rw [List.getElem?_eq_none (by omega), List.getElem?_eq_none (by omega)]
        (repeat' (first | (show wpListIn _ _ _ _ _ (_ :: _) _ _; first | (refine wx1 ?_; clear hk a; intro a hk) | (refine wx2 ?_ ?_ <;> (intro hp; clear hk a; intro a hk)) | (refine wx3 ?_; clear hk hS a; intro w b hS a hk) | (refine wx4 ?_; clear hk hS a; intro w hS a hk) | (refine wx5 ?_; clear hk hS a; intro w v hS a hk) | fail) | refine wx0 ?_ | (refine s_end hk ?_; clear hk a; intro a hk) | fail))
        replace hk := Kn.kp [2, 3, 102, 103] hk
        refine wp_for sl.length (fun i _ => [(103, .int .i64 (i : Int))]) (fun _ _ => [pts b2 [.int .i64 id', .int .i64 k', .string tag', .string text', .slice b1' cl'.length n1, .slice b2' al'.length n2, .slice b3' sl'.length n3, .slice b4' G.length n4] 46, pts b1 [.int .i64 id, .int .i64 k, .string tag, .string text, .slice a1 cl.length m1, .slice a2 al.length m2, .slice a3 sl.length m3, .slice a4 H.length m4] 46]) (fun i _ => ∀ j, j < i → sl[j]? = sl'[j]?) () hk (by repeat (first | exact trivial | refine ⟨rfl, ?_⟩)) hS.sb (fun j hj => by omega) ?_
        clear hk hS a
        rintro i - a w hi hk hS hEq2
        by_cases hil : i < sl.length
        · obtain ⟨⟨nm, val⟩, hx⟩ : ∃ x, sl[i]? = some x := ⟨_, List.getElem?_eq_getElem hil⟩
          obtain ⟨⟨nm', val'⟩, hy⟩ : ∃ y, sl'[i]? = some y := ⟨_, List.getElem?_eq_getElem (by omega)⟩
          have hv1 := hS.rdT c3
          have hv2 := hS.rdT g3
          (repeat' (first | (show wpListIn _ _ _ _ _ (_ :: _) _ _; first | (refine wx1 ?_; clear hk a; intro a hk) | (refine wx2 ?_ ?_ <;> (intro hp; clear hk a; intro a hk)) | (refine wx3 ?_; clear hk hS a; intro w b hS a hk) | (refine wx4 ?_; clear hk hS a; intro w hS a hk) | (refine wx5 ?_; clear hk hS a; intro w v hS a hk) | fail) | refine wx0 ?_ | (refine s_end hk ?_; clear hk a; intro a hk) | fail))
          refine wp_drawn 10 mixed (by kernel_rfl) hk hS ?_; clear hk hS a
          (repeat' (first | (show ObxE _ _ _ _ _ _ _ _ _ (_ :: _) _ _ _; first | refine ox1 ?_ | (refine ox2 ?_ ?_ <;> intro hp) | fail) | fail))
          all_goals (
            refine obe_nil ⟨rfl, ?_⟩; intro us a w hk hS
            (repeat' (first | (show wpListIn _ _ _ _ _ (_ :: _) _ _; first | (refine wx1 ?_; clear hk a; intro a hk) | (refine wx2 ?_ ?_ <;> (intro hp; clear hk a; intro a hk)) | (refine wx3 ?_; clear hk hS a; intro w b hS a hk) | (refine wx4 ?_; clear hk hS a; intro w hS a hk) | (refine wx5 ?_; clear hk hS a; intro w v hS a hk) | fail) | refine wx0 ?_ | (refine s_end hk ?_; clear hk a; intro a hk) | fail)))
          · have he : (nm, val) = (nm', val') := by
              have := eqC_enc (α := PrI) (x := (nm, val)) (y := (nm', val')) (b := true) (by assumption)
              rwa [if_pos rfl] at this
            refine ⟨hil, (), hk.sd, hS.sb, fun j hj => ?_⟩
            by_cases e : j = i
            · subst e; rw [hx, hy, he]
            · exact hEq2 j (by omega)
          · have he : ¬ (nm, val) = (nm', val') := by
              have := eqC_enc (α := PrI) (x := (nm, val)) (y := (nm', val')) (b := false) (by assumption)
              rwa [if_neg (by decide)] at this
            refine done1 hk (h := ⟨congrArg Value.bool (eqS_false fun hh => ?_).symm, hS.nil⟩)
            obtain ⟨⟨q1, q2, q3, q4, q5, q6⟩, q9, q10⟩ := hiff.1 hh
            rw [q6, hy] at hx
            exact he (Option.some.inj hx).symm
        · have : i = sl.length := by omega
          subst this
          have hcI : sl = sl' := List.ext_getElem? fun j => by
            by_cases hj : j < sl.length
            · exact hEq2 j hj
            · rw [List.getElem?_eq_none (by omega), List.getElem?_eq_none (by omega)]
          (repeat' (first | (show wpListIn _ _ _ _ _ (_ :: _) _ _; first | (refine wx1 ?_; clear hk a; intro a hk) | (refine wx2 ?_ ?_ <;> (intro hp; clear hk a; intro a hk)) | (refine wx3 ?_; clear hk hS a; intro w b hS a hk) | (refine wx4 ?_; clear hk hS a; intro w hS a hk) | (refine wx5 ?_; clear hk hS a; intro w v hS a hk) | fail) | refine wx0 ?_ | (refine s_end hk ?_; clear hk a; intro a hk) | fail))
          replace hk := Kn.kp [2, 3, 120, 121] hk
          refine wp_for H.length (fun i _ => [(121, .int .i64 (i : Int))]) (fun _ _ => [pts b2 [.int .i64 id', .int .i64 k', .string tag', .string text', .slice b1' cl'.length n1, .slice b2' al'.length n2, .slice b3' sl'.length n3, .slice b4' G.length n4] 46, pts b1 [.int .i64 id, .int .i64 k, .string tag, .string text, .slice a1 cl.length m1, .slice a2 al.length m2, .slice a3 sl.length m3, .slice a4 H.length m4] 46]) (fun i _ => ∀ (j : Nat) (t u : STree), j < i → kids[j]? = some t → kids'[j]? = some u → eqS t u = true) () hk (by repeat (first | exact trivial | refine ⟨rfl, ?_⟩)) hS.sb (fun j t u hj => by omega) ?_
          clear hk hS a
          rintro i - a w hi hk hS hEq3
          by_cases hil : i < H.length
          · obtain ⟨tk, htk⟩ : ∃ t, kids[i]? = some t := ⟨_, List.getElem?_eq_getElem (by omega)⟩
            obtain ⟨uk, huk⟩ : ∃ t, kids'[i]? = some t := ⟨_, List.getElem?_eq_getElem (by omega)⟩
            obtain ⟨hd0, hx⟩ : ∃ x, H[i]? = some x := ⟨_, List.getElem?_eq_getElem hil⟩
            obtain ⟨gd0, hy⟩ : ∃ x, G[i]? = some x := ⟨_, List.getElem?_eq_getElem (by omega)⟩
            have hTr := hF.2 i tk hd0 htk hx
            have hTu := hG.2 i uk gd0 huk hy
            have hfk := l5 tk (List.mem_of_getElem? htk)
            have hfu := l5' uk (List.mem_of_getElem? huk)
            have hlt : SizeOf.sizeOf tk < n := by have := skid_lt (id := id) (k := k) (tag := tag) (text := text) (cl := cl) (at_ := al) (st := sl) (List.mem_of_getElem? htk); omega
            obtain ⟨id0, k0, tag0, text0, ⟨x1, x2, x3⟩, ⟨y1, y2, y3⟩, ⟨z1, z2, z3⟩, ⟨u1, u2, u3⟩⟩ := hd0
            obtain ⟨id9, k9, tag9, text9, ⟨x19, x29, x39⟩, ⟨y19, y29, y39⟩, ⟨z19, z29, z39⟩, ⟨u19, u29, u39⟩⟩ := gd0
            have hcall := fun w0 h1 h2 => ih tk uk (id0, k0, tag0, text0, ⟨x1, x2, x3⟩, ⟨y1, y2, y3⟩, ⟨z1, z2, z3⟩, ⟨u1, u2, u3⟩) (id9, k9, tag9, text9, ⟨x19, x29, x39⟩, ⟨y19, y29, y39⟩, ⟨z19, z29, z39⟩, ⟨u19, u29, u39⟩) w0 hlt hfk hfu h1 h2
            have hv1 := hS.rdT c4
            have hv2 := hS.rdT g4
            cases hs : eqS tk uk with
            | true =>
              rw [hs] at hcall
              (repeat' (first | (show wpListIn _ _ _ _ _ (_ :: _) _ _; first | (refine wx1 ?_; clear hk a; intro a hk) | (refine wx2 ?_ ?_ <;> (intro hp; clear hk a; intro a hk)) | (refine wx3 ?_; clear hk hS a; intro w b hS a hk) | (refine wx4 ?_; clear hk hS a; intro w hS a hk) | (refine wx5 ?_; clear hk hS a; intro w v hS a hk) | fail) | refine wx0 ?_ | (refine s_end hk ?_; clear hk a; intro a hk) | fail))
              refine wp_drawn 12 mixed (by kernel_rfl) hk hS ?_; clear hk hS a
              (repeat' (first | (show ObxE _ _ _ _ _ _ _ _ _ (_ :: _) _ _ _; first | refine ox1 ?_ | (refine ox2 ?_ ?_ <;> intro hp) | fail) | fail))
              refine' obe_val (fun us a w hk hd hS => ?_) ?_; rotate_left; focus (have hk := Kn.vw hk (by repeat (first | exact VW.nil | apply VW.val rfl | apply VW.base rfl rfl | apply VW.res rfl | apply VW.upd rfl | apply VW.cpy rfl | apply VW.dep rfl | apply VW.fn rfl | apply VW.lnd rfl | apply VW.tak rfl)); exact g_callO hk (hf := by kernel_rfl) (hc := hcall _ (hS.rdSr hTr) (hS.rdSr hTu)) (h := fun _ _ h => h))
              (repeat' (first | (show ObxE _ _ _ _ _ _ _ _ _ (_ :: _) _ _ _; first | refine ox1 ?_ | (refine ox2 ?_ ?_ <;> intro hp) | fail) | fail))
              refine obe_nil ⟨rfl, ?_⟩; intro us a w hk hS
              (repeat' (first | (show wpListIn _ _ _ _ _ (_ :: _) _ _; first | (refine wx1 ?_; clear hk a; intro a hk) | (refine wx2 ?_ ?_ <;> (intro hp; clear hk a; intro a hk)) | (refine wx3 ?_; clear hk hS a; intro w b hS a hk) | (refine wx4 ?_; clear hk hS a; intro w hS a hk) | (refine wx5 ?_; clear hk hS a; intro w v hS a hk) | fail) | refine wx0 ?_ | (refine s_end hk ?_; clear hk a; intro a hk) | fail))
              refine ⟨hil, (), hk.sd, hS.sb, fun j t u hj ht hu => ?_⟩
              by_cases e : j = i
              · subst e
                rw [htk] at ht
                rw [huk] at hu
                cases ht
                cases hu
                exact hs
              · exact hEq3 j t u (by omega) ht hu
            | false =>
              rw [hs] at hcall
              (repeat' (first | (show wpListIn _ _ _ _ _ (_ :: _) _ _; first | (refine wx1 ?_; clear hk a; intro a hk) | (refine wx2 ?_ ?_ <;> (intro hp; clear hk a; intro a hk)) | (refine wx3 ?_; clear hk hS a; intro w b hS a hk) | (refine wx4 ?_; clear hk hS a; intro w hS a hk) | (refine wx5 ?_; clear hk hS a; intro w v hS a hk) | fail) | refine wx0 ?_ | (refine s_end hk ?_; clear hk a; intro a hk) | fail))
              refine wp_drawn 12 mixed (by kernel_rfl) hk hS ?_; clear hk hS a
              (repeat' (first | (show ObxE _ _ _ _ _ _ _ _ _ (_ :: _) _ _ _; first | refine ox1 ?_ | (refine ox2 ?_ ?_ <;> intro hp) | fail) | fail))
              refine' obe_val (fun us a w hk hd hS => ?_) ?_; rotate_left; focus (have hk := Kn.vw hk (by repeat (first | exact VW.nil | apply VW.val rfl | apply VW.base rfl rfl | apply VW.res rfl | apply VW.upd rfl | apply VW.cpy rfl | apply VW.dep rfl | apply VW.fn rfl | apply VW.lnd rfl | apply VW.tak rfl)); exact g_callO hk (hf := by kernel_rfl) (hc := hcall _ (hS.rdSr hTr) (hS.rdSr hTu)) (h := fun _ _ h => h))
              (repeat' (first | (show ObxE _ _ _ _ _ _ _ _ _ (_ :: _) _ _ _; first | refine ox1 ?_ | (refine ox2 ?_ ?_ <;> intro hp) | fail) | fail))
              refine obe_nil ⟨rfl, ?_⟩; intro us a w hk hS
              (repeat' (first | (show wpListIn _ _ _ _ _ (_ :: _) _ _; first | (refine wx1 ?_; clear hk a; intro a hk) | (refine wx2 ?_ ?_ <;> (intro hp; clear hk a; intro a hk)) | (refine wx3 ?_; clear hk hS a; intro w b hS a hk) | (refine wx4 ?_; clear hk hS a; intro w hS a hk) | (refine wx5 ?_; clear hk hS a; intro w v hS a hk) | fail) | refine wx0 ?_ | (refine s_end hk ?_; clear hk a; intro a hk) | fail))
              refine done1 hk (h := ⟨congrArg Value.bool (eqS_false fun hh => ?_).symm, hS.nil⟩)
              obtain ⟨⟨q1, q2, q3, q4, q5, q6⟩, q9, q10⟩ := hiff.1 hh
              have := q10 i tk uk htk huk
              rw [hs] at this
              cases this
          · have : i = H.length := by omega
            subst this
            (repeat' (first | (show wpListIn _ _ _ _ _ (_ :: _) _ _; first | (refine wx1 ?_; clear hk a; intro a hk) | (refine wx2 ?_ ?_ <;> (intro hp; clear hk a; intro a hk)) | (refine wx3 ?_; clear hk hS a; intro w b hS a hk) | (refine wx4 ?_; clear hk hS a; intro w hS a hk) | (refine wx5 ?_; clear hk hS a; intro w v hS a hk) | fail) | refine wx0 ?_ | (refine s_end hk ?_; clear hk a; intro a hk) | fail))
            exact done1 hk (h := ⟨congrArg Value.bool (hiff.2 ⟨⟨hb1, hb2, hb4, hcl, hcS, hcI⟩, by omega, fun j t u ht hu => hEq3 j t u (by have := lt_of_get ht; omega) ht hu⟩).symm, hS.nil⟩)
end Go.Proofs.YtkcjkbnbblpomaaDoor
