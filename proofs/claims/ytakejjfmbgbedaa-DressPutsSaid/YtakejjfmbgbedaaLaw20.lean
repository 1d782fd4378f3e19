/- Layer 20: what a node has, with its marks, is just the document's. -/
import Derived.Test.YtakejjfmbgbedaaPuts20
import Derived.Test.YtakejjfmbgbedaaTree7
namespace Go.Proofs.Ytakejjfmbgbedaa
open Go.RowKit
set_option maxRecDepth 100000
attribute [local irreducible] Go.Code.wpIn Go.wpListIn Go.Calls Gives Go.Exit.then Go.Exit.inBlock Done ObxE

/-- Classes, attributes and styles that are owned. -/
abbrev own3 (E1 E2 E3 : TypeId) (cl : List ByteArray) (sl : List PrS) (il : List PrI) (v : Value) : HP :=
  bagH (fun (u : Value × Value × Value) => [OwT E1 cl u.1, OwT E2 sl u.2.1, OwT E3 il u.2.2]) (fun u => v = .agg #[u.1, u.2.1, u.2.2])
theorem own3.rd {E1 E2 E3 : TypeId} {cl : List ByteArray} {sl : List PrS} {il : List PrI} {v : Value} {w : World} (h : (own3 E1 E2 E3 cl sl il v).rd w) : ∃ a b c, v = .agg #[a, b, c] ∧ SlT cl a w ∧ SlT sl b w ∧ SlT il c w := by
  obtain ⟨⟨a, b, c⟩, e, F, hs⟩ := bagH.rd h
  exact ⟨a, b, c, e, OwT.rd (hs.rd .here), OwT.rd (hs.rd (.there .here)), OwT.rd (hs.rd (.there (.there .here)))⟩

theorem put3 {cl : List ByteArray} {sl : List PrS} {il : List PrI} (k m x y : Int) {vc vs vi : Value} {w0 : World} (hc : SlT cl vc w0) (hs : SlT sl vs w0) (hi : SlT il vi w0)
    (hcl : cl.length ≤ 800) (hsl : sl.length ≤ 800) (hil : il.length ≤ 800) :
    Calls Try.prog 11 #[.agg #[.int .i64 k, .int .i64 m, .int .i64 x, .int .i64 y], .agg #[vc, vs, vi]] w0
      (Ret fun v w => St w0 [own3 9 61 86 (clnC (cl ++ clsL k m)) (snapF nmS (sl ++ ghoP k)) (snapF nmI (il ++ movP m x y)) v] w) :=
  Calls.mono (put_any cl sl il k m x y _ _ _ w0 hc hs hi hcl hsl hil) (fun _ _ h => h.mono (fun v w ⟨a, b, c, e, h⟩ => bagH.of (x := (a, b, c)) h e))
theorem rput3 {cl : List ByteArray} {sl : List PrS} {il : List PrI} (k m x y : Int) {vc vs vi : Value} {w0 : World} (hc : SlT cl vc w0) (hs : SlT sl vs w0) (hi : SlT il vi w0) (hr : Rises nmS sl)
    (hcl : cl.length ≤ 800) (hsl : sl.length ≤ 400) (hil : il.length ≤ 800) :
    Calls Try.prog 12 #[.agg #[.int .i64 k, .int .i64 m, .int .i64 x, .int .i64 y], .agg #[vc, vs, vi]] w0
      (Ret fun v w => St w0 [own3 9 71 80 (clnC (cl ++ clsL k m)) (snapF nmS (sl ++ ghoP k)) (snapF nmI (il ++ movP m x y)) v] w) :=
  Calls.mono (rput_any cl sl il k m x y _ _ _ w0 hc hs hi hr hcl hsl hil) (fun _ _ h => h.mono (fun v w ⟨a, b, c, e, h⟩ => bagH.of (x := (a, b, c)) h e))

theorem movP_len (m x y : Int) : (movP m x y).length ≤ 2 := by unfold movP; split <;> simp
theorem ghoP_len (k : Int) : (ghoP k).length ≤ 1 := by unfold ghoP; split <;> simp

set_option maxHeartbeats 4000000 in
theorem puts20_any (h : FlH) (k m x y : Int) (w0 : World) (hR : FlR w0 h) :
    Calls Try.prog 3 #[flV h, .agg #[.int .i64 k, .int .i64 m, .int .i64 x, .int .i64 y]] w0 (Ret fun v w => v = .bool true ∧ St w0 [] w) := by
  have hkl := cls_len k m
  have hgl := ghoP_len k
  have hml := movP_len m x y
  have hR0 := hR
  obtain ⟨dp, k', tag, key, text, cl, al, sl, e, lv, m', d, p, q, a1, a2, a3, m1, m2, m3, rfl, -⟩ := hR
  show Calls Try.prog 3 #[.agg #[.int .i64 dp, .int .i64 k', .string tag, .string key, .string text, .slice a1 cl.length m1, .slice a2 al.length m2, .slice a3 sl.length m3, .int .i64 e, .int .i64 lv, .int .i64 m', .int .i64 d, .bool p, .bool q], .agg #[.int .i64 k, .int .i64 m, .int .i64 x, .int .i64 y]] w0 _
  refine enter Try.func3 rfl Try.ntmps3 rfl (fun a hk => ?_); have hS := St.refl w0
  (repeat' (first | (show wpListIn _ _ _ _ _ (_ :: _) _ _; first | (refine st hk ?_; clear hk a; intro a hk) | (refine st_skip hk ?_; clear hk a; intro a hk) | (refine s_skip0 hk ?_; clear hk a; intro a hk) | (first | refine st_lss hk ?_ ?_ | refine st_leq hk ?_ ?_ | refine st_gtr hk ?_ ?_ | refine st_geq hk ?_ ?_ | refine st_eqi hk ?_ ?_ | refine st_nei hk ?_ ?_ | refine st_eqS hk ?_ ?_ | refine st_neS hk ?_ ?_ | refine st_cmpS hk ?_ ?_ | refine st_eqs hk ?_ ?_ | refine st_nes hk ?_ ?_) <;> (intro hp; clear hk a; intro a hk) | (first | refine st_box hk hS ?_ | refine st_alloc hk hS ?_); clear hk hS a; intro w b hS a hk | (first | refine st_store hk hS ?_ | refine st_stI hk hS ?_ | refine st_stB hk hS ?_ | refine st_stS hk hS ?_); clear hk hS a; intro w hS a hk | (first | refine st_bs1I hk hS ?_ | refine st_bs1S hk hS ?_ | refine st_app1 hk hS ?_ | refine st_appE hk hS ?_); clear hk hS a; intro w v hS a hk | fail) | refine wpIn_seq ?_ | refine wpIn_block ?_ | refine wpIn_region_lit ?_ | refine q_then ?_ | refine q_thenE ?_ | refine q_thenR ?_ | refine q_inN ?_ | refine q_inR ?_ | refine q_inE ?_ | refine q_inO ?_ | refine wpIn_skip ?_ | refine wpIn_ret ?_ | refine wpIn_exit ?_ | (refine s_end hk ?_; clear hk a; intro a hk) | refine c_true hk ?_ | refine c_false hk ?_ | fail))
  refine sg hk (g_callO hk (hf := by kernel_rfl) (hc := awake20_any _) (h := ?_)); clear hk a; rintro _ w ⟨rfl, hS1⟩ a hk; replace hS := hS.call0 hS1; clear hS1
  (repeat' (first | (show wpListIn _ _ _ _ _ (_ :: _) _ _; first | (refine st hk ?_; clear hk a; intro a hk) | (refine st_skip hk ?_; clear hk a; intro a hk) | (refine s_skip0 hk ?_; clear hk a; intro a hk) | (first | refine st_lss hk ?_ ?_ | refine st_leq hk ?_ ?_ | refine st_gtr hk ?_ ?_ | refine st_geq hk ?_ ?_ | refine st_eqi hk ?_ ?_ | refine st_nei hk ?_ ?_ | refine st_eqS hk ?_ ?_ | refine st_neS hk ?_ ?_ | refine st_cmpS hk ?_ ?_ | refine st_eqs hk ?_ ?_ | refine st_nes hk ?_ ?_) <;> (intro hp; clear hk a; intro a hk) | (first | refine st_box hk hS ?_ | refine st_alloc hk hS ?_); clear hk hS a; intro w b hS a hk | (first | refine st_store hk hS ?_ | refine st_stI hk hS ?_ | refine st_stB hk hS ?_ | refine st_stS hk hS ?_); clear hk hS a; intro w hS a hk | (first | refine st_bs1I hk hS ?_ | refine st_bs1S hk hS ?_ | refine st_app1 hk hS ?_ | refine st_appE hk hS ?_); clear hk hS a; intro w v hS a hk | fail) | refine wpIn_seq ?_ | refine wpIn_block ?_ | refine wpIn_region_lit ?_ | refine q_then ?_ | refine q_thenE ?_ | refine q_thenR ?_ | refine q_inN ?_ | refine q_inR ?_ | refine q_inE ?_ | refine q_inO ?_ | refine wpIn_skip ?_ | refine wpIn_ret ?_ | refine wpIn_exit ?_ | (refine s_end hk ?_; clear hk a; intro a hk) | refine c_true hk ?_ | refine c_false hk ?_ | fail))
  refine sg hk (g_bsT (xs := [((dp, k', tag, key, text, ⟨a1, cl.length, m1⟩, ⟨a2, al.length, m2⟩, ⟨a3, sl.length, m3⟩, (e, lv, m', d, p, q)) : FlH)]) (m := 0) hk hS ?_ (hT := eT rfl) (hE := zT rfl) (hz := oT rfl)); clear hk hS a; intro w vf hS a hk
  refine sg hk (g_callO hk (hf := by kernel_rfl) (hc := tree07_any [(dp, k', tag, key, text, ⟨a1, cl.length, m1⟩, ⟨a2, al.length, m2⟩, ⟨a3, sl.length, m3⟩, (e, lv, m', d, p, q))] vf 1 (by omega) (by omega) _ (by first | exact St.rdT hS (by assumption) | exact OwT.rd (hS.rd (A := OwT _ _ _) (by (repeat (first | exact At.here | apply At.there)))) | assumption) (by intro h hh; rw [List.mem_singleton] at hh; subst hh; exact hR0.frz hS.frz)) (h := ?_)); clear hk a; rintro vr w ⟨t, ht1, ht2, hS1⟩ a hk; replace hS := hS.call hS1; clear hS1
  rw [List.cons_append, List.nil_append] at hS
  obtain ⟨hd1, rfl, hS1⟩ := St.tree hS .here
  clear hS
  have hS := hS1
  clear hS1
  have hft := ht1.fit (by omega)
  refine sg hk (g_callO hk (hf := by kernel_rfl) (hc := own20_any t hd1 _ hft (hS.trR .here)) (h := ?_)); clear hk a; rintro vr w ⟨h1, h2, rfl, hS1⟩ a hk; replace hS := hS.call hS1; clear hS1
  rw [List.cons_append, List.cons_append, List.nil_append] at hS
  have hfn := hft.nrm
  obtain ⟨K, TAG, KEY, TEXT, CL, AL, SL, O, KS⟩ := t
  obtain ⟨k1, tag1, key1, text1, cl1, al1, sl1, e1, lv1, m1', d1, p1, q1, kids1, B1, N1, B2, N2, B3, N3, B4, N4, H1, he1, rfl, c1, c2, c3, -⟩ := (hS.trR .here).split
  obtain ⟨k2, tag2, key2, text2, cl2, al2, sl2, e2, lv2, m2', d2, p2, q2, kids2, A1, M1, A2, M2, A3, M3, A4, M4, H2, he2, rfl, g1, g2, g3, -⟩ := (hS.trR (.there .here)).split
  rw [he1] at he2 hfn
  injection he2 with i1 i2 i3 i4 i5 i6 i7 i8 i9
  subst i5 i6 i7
  rw [he1] at hS
  rw [nrm] at he1
  injection he1 with _ _ _ _ _ i6 _ _ _
  have hrs : Rises nmS al1 := by rw [← i6]; exact snap_rises nmS AL
  obtain ⟨l1, l2, l3, -⟩ := hfn
  have ls1 := snap_len nmS (al1 ++ ghoP k)
  have ls2 := snap_len nmI (sl1 ++ movP m x y)
  have ls3 := clnC_le (cl1 ++ clsL k m)
  rw [List.length_append] at ls1 ls2 ls3
  (repeat' (first | (show wpListIn _ _ _ _ _ (_ :: _) _ _; first | (refine st hk ?_; clear hk a; intro a hk) | (refine st_skip hk ?_; clear hk a; intro a hk) | (refine s_skip0 hk ?_; clear hk a; intro a hk) | (first | refine st_lss hk ?_ ?_ | refine st_leq hk ?_ ?_ | refine st_gtr hk ?_ ?_ | refine st_geq hk ?_ ?_ | refine st_eqi hk ?_ ?_ | refine st_nei hk ?_ ?_ | refine st_eqS hk ?_ ?_ | refine st_neS hk ?_ ?_ | refine st_cmpS hk ?_ ?_ | refine st_eqs hk ?_ ?_ | refine st_nes hk ?_ ?_) <;> (intro hp; clear hk a; intro a hk) | (first | refine st_box hk hS ?_ | refine st_alloc hk hS ?_); clear hk hS a; intro w b hS a hk | (first | refine st_store hk hS ?_ | refine st_stI hk hS ?_ | refine st_stB hk hS ?_ | refine st_stS hk hS ?_); clear hk hS a; intro w hS a hk | (first | refine st_bs1I hk hS ?_ | refine st_bs1S hk hS ?_ | refine st_app1 hk hS ?_ | refine st_appE hk hS ?_); clear hk hS a; intro w v hS a hk | fail) | refine wpIn_seq ?_ | refine wpIn_block ?_ | refine wpIn_region_lit ?_ | refine q_then ?_ | refine q_thenE ?_ | refine q_thenR ?_ | refine q_inN ?_ | refine q_inR ?_ | refine q_inE ?_ | refine q_inO ?_ | refine wpIn_skip ?_ | refine wpIn_ret ?_ | refine wpIn_exit ?_ | (refine s_end hk ?_; clear hk a; intro a hk) | refine c_true hk ?_ | refine c_false hk ?_ | fail))
  refine wp_drawn 7 mixed (by kernel_rfl) hk hS ?_; clear hk hS a
  (repeat' (first | (show ObxE _ _ _ _ _ _ _ _ _ (_ :: _) _ _ _; first | refine ob_v ?_ | refine obe_skip ?_ | (first | refine ob_lss ?_ ?_ | refine ob_leq ?_ ?_ | refine ob_gtr ?_ ?_ | refine ob_geq ?_ ?_ | refine ob_eqi ?_ ?_ | refine ob_nei ?_ ?_ | refine ob_eqS ?_ ?_ | refine ob_neS ?_ ?_ | refine ob_cmpS ?_ ?_ | refine ob_eqs ?_ ?_ | refine ob_nes ?_ ?_) <;> intro hp | fail) | fail))
  refine' obe_res (fun us a w hk hd hS => ?_) ?_; rotate_left; focus (have hk := Kn.vw hk (by repeat (first | exact VW.nil | apply VW.val rfl | apply VW.base rfl rfl | apply VW.res rfl | apply VW.upd rfl | apply VW.cpy rfl | apply VW.dep rfl | apply VW.fn rfl | apply VW.lnd rfl | apply VW.tak rfl)); exact g_callO hk (hf := by kernel_rfl) (hc := put3 k m x y (hS.trR (h := (k1, tag1, key1, text1, ⟨B1, cl1.length, N1⟩, ⟨B2, al1.length, N2⟩, ⟨B3, sl1.length, N3⟩, (e1, lv1, m1', d1, p1, q1), ⟨B4, H1.length, N4⟩)) (by (repeat (first | exact At.here | apply At.there)))).sl.1 (hS.trR (h := (k1, tag1, key1, text1, ⟨B1, cl1.length, N1⟩, ⟨B2, al1.length, N2⟩, ⟨B3, sl1.length, N3⟩, (e1, lv1, m1', d1, p1, q1), ⟨B4, H1.length, N4⟩)) (by (repeat (first | exact At.here | apply At.there)))).sl.2.1 (hS.trR (h := (k1, tag1, key1, text1, ⟨B1, cl1.length, N1⟩, ⟨B2, al1.length, N2⟩, ⟨B3, sl1.length, N3⟩, (e1, lv1, m1', d1, p1, q1), ⟨B4, H1.length, N4⟩)) (by (repeat (first | exact At.here | apply At.there)))).sl.2.2 (by omega) (by omega) (by omega)) (h := fun _ _ h => h))
  (repeat' (first | (show ObxE _ _ _ _ _ _ _ _ _ (_ :: _) _ _ _; first | refine ob_v ?_ | refine obe_skip ?_ | (first | refine ob_lss ?_ ?_ | refine ob_leq ?_ ?_ | refine ob_gtr ?_ ?_ | refine ob_geq ?_ ?_ | refine ob_eqi ?_ ?_ | refine ob_nei ?_ ?_ | refine ob_eqS ?_ ?_ | refine ob_neS ?_ ?_ | refine ob_cmpS ?_ ?_ | refine ob_eqs ?_ ?_ | refine ob_nes ?_ ?_) <;> intro hp | fail) | fail))
  refine' obe_res (fun us a w hk hd hS => ?_) ?_; rotate_left; focus (have hk := Kn.vw hk (by repeat (first | exact VW.nil | apply VW.val rfl | apply VW.base rfl rfl | apply VW.res rfl | apply VW.upd rfl | apply VW.cpy rfl | apply VW.dep rfl | apply VW.fn rfl | apply VW.lnd rfl | apply VW.tak rfl)); exact g_callO hk (hf := by kernel_rfl) (hc := rput3 k m x y (hS.trR (h := (k2, tag2, key2, text2, ⟨A1, cl1.length, M1⟩, ⟨A2, al1.length, M2⟩, ⟨A3, sl1.length, M3⟩, (e2, lv2, m2', d2, p2, q2), ⟨A4, H2.length, M4⟩)) (by (repeat (first | exact At.here | apply At.there)))).sl.1 (hS.trR (h := (k2, tag2, key2, text2, ⟨A1, cl1.length, M1⟩, ⟨A2, al1.length, M2⟩, ⟨A3, sl1.length, M3⟩, (e2, lv2, m2', d2, p2, q2), ⟨A4, H2.length, M4⟩)) (by (repeat (first | exact At.here | apply At.there)))).sl.2.1 (hS.trR (h := (k2, tag2, key2, text2, ⟨A1, cl1.length, M1⟩, ⟨A2, al1.length, M2⟩, ⟨A3, sl1.length, M3⟩, (e2, lv2, m2', d2, p2, q2), ⟨A4, H2.length, M4⟩)) (by (repeat (first | exact At.here | apply At.there)))).sl.2.2 hrs (by omega) (by omega) (by omega)) (h := fun _ _ h => h))
  refine' obe_val (c := .bool true) (fun us a w hk hd hS => ?_) ?_
  · have hk := Kn.vw hk (by repeat (first | exact VW.nil | apply VW.val rfl | apply VW.base rfl rfl | apply VW.res rfl | apply VW.upd rfl | apply VW.cpy rfl | apply VW.dep rfl | apply VW.fn rfl | apply VW.lnd rfl | apply VW.tak rfl))
    simp only [Nat.zero_add, Nat.reduceAdd] at hk
    obtain ⟨va, vb, vc, e1, r1, r2, r3⟩ := own3.rd (show (own3 9 61 86 (clnC (cl1 ++ clsL k m)) (snapF nmS (al1 ++ ghoP k)) (snapF nmI (sl1 ++ movP m x y)) (us 2)).rd w from hd.1)
    obtain ⟨vd, ve, vg, e2, s1, s2, s3⟩ := own3.rd (show (own3 9 71 80 (clnC (cl1 ++ clsL k m)) (snapF nmS (al1 ++ ghoP k)) (snapF nmI (sl1 ++ movP m x y)) (us 5)).rd w from hd.2.1)
    rw [e1, e2] at hk
    exact g_callO hk (hf := by kernel_rfl) (hc := is20_any _ _ _ _ _ _ _ _ _ _ r1 r2 r3 s1 s2 s3 (by omega) (by omega) (by omega)) (h := fun _ _ h => h)
  refine obe_nil ⟨rfl, ?_⟩; intro us a w hk hS
  (repeat' (first | (show wpListIn _ _ _ _ _ (_ :: _) _ _; first | (refine st hk ?_; clear hk a; intro a hk) | (refine st_skip hk ?_; clear hk a; intro a hk) | (refine s_skip0 hk ?_; clear hk a; intro a hk) | (first | refine st_lss hk ?_ ?_ | refine st_leq hk ?_ ?_ | refine st_gtr hk ?_ ?_ | refine st_geq hk ?_ ?_ | refine st_eqi hk ?_ ?_ | refine st_nei hk ?_ ?_ | refine st_eqS hk ?_ ?_ | refine st_neS hk ?_ ?_ | refine st_cmpS hk ?_ ?_ | refine st_eqs hk ?_ ?_ | refine st_nes hk ?_ ?_) <;> (intro hp; clear hk a; intro a hk) | (first | refine st_box hk hS ?_ | refine st_alloc hk hS ?_); clear hk hS a; intro w b hS a hk | (first | refine st_store hk hS ?_ | refine st_stI hk hS ?_ | refine st_stB hk hS ?_ | refine st_stS hk hS ?_); clear hk hS a; intro w hS a hk | (first | refine st_bs1I hk hS ?_ | refine st_bs1S hk hS ?_ | refine st_app1 hk hS ?_ | refine st_appE hk hS ?_); clear hk hS a; intro w v hS a hk | fail) | refine wpIn_seq ?_ | refine wpIn_block ?_ | refine wpIn_region_lit ?_ | refine q_then ?_ | refine q_thenE ?_ | refine q_thenR ?_ | refine q_inN ?_ | refine q_inR ?_ | refine q_inE ?_ | refine q_inO ?_ | refine wpIn_skip ?_ | refine wpIn_ret ?_ | refine wpIn_exit ?_ | (refine s_end hk ?_; clear hk a; intro a hk) | refine c_true hk ?_ | refine c_false hk ?_ | fail))
  exact done1 hk (h := ⟨rfl, hS.nil⟩)
end Go.Proofs.Ytakejjfmbgbedaa
