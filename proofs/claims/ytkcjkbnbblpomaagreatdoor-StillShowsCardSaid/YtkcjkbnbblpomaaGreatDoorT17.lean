/- Layer 7: views as they are shown, by the program. Layer 9: trees that are the same, in plain words. -/
import Derived.Test.YtkcjkbnbblpomaaGreatDoorT16
import Derived.Test.YtkcjkbnbblpomaaGreatDoorT12
import Derived.Test.YtkcjkbnbblpomaaGreatDoorT13
set_option linter.all false
namespace Go.Proofs.YtkcjkbnbblpomaaGreatDoor
open Go.RowKit
set_option maxRecDepth 100000
attribute [local irreducible] Go.Code.wpIn Go.wpListIn Go.Calls Gives Go.Exit.then Go.Exit.inBlock Done ObxE

set_option maxHeartbeats 8000000 in
theorem normal_any (X : Nat) (hX : X ≤ 1000000) : ∀ (n : Nat) (t : Tree) (h : NdH) (w0 : World), SizeOf.sizeOf t < n → Fit X t → TrR w0 t h → Calls Tryz.prog 30 #[ndV h] w0 (Ret fun v w => St w0 [treeH (nrm t) v] w)
  | 0, _, _, _, hn, _, _ => by omega
  | n + 1, t, h, w0, hn, hf, hr => by
    have ih := normal_any X hX n
    obtain ⟨k, tag, key, text, cl, al, sl, e, lv, m, d, p, q, kids, a1, m1, a2, m2, a3, m3, a4, m4, H, rfl, rfl, c1, c2, c3, c4, hF⟩ := hr.split
    obtain ⟨l1, l2, l3, l4, l5, l6⟩ := hf
    have hHk : H.length = kids.length := hF.1
    have hxx : X * kids.length ≤ 1000000 * 1000 := Nat.mul_le_mul hX l4
    have htxK := nrmL_txt kids l6
    show Calls Tryz.prog 30 #[.agg #[.int .i64 k, .string tag, .string key, .string text, .slice a1 cl.length m1, .slice a2 al.length m2, .slice a3 sl.length m3, .int .i64 e, .int .i64 lv, .int .i64 m, .int .i64 d, .bool p, .bool q, .slice a4 H.length m4]] w0 _
    refine enter Tryz.func30 rfl Tryz.ntmps30 rfl (fun a hk => ?_); have hS := St.refl w0
    (repeat' (first | (show wpListIn _ _ _ _ _ (_ :: _) _ _; first | (refine wx1 ?_; clear hk a; intro a hk) | (refine wx2 ?_ ?_ <;> (intro hp; clear hk a; intro a hk)) | (refine wx3 ?_; clear hk hS a; intro w b hS a hk) | (refine wx4 ?_; clear hk hS a; intro w hS a hk) | (refine wx5 ?_; clear hk hS a; intro w v hS a hk) | fail) | refine wx0 ?_ | (refine s_end hk ?_; clear hk a; intro a hk) | fail))
    rename_i b1
    rename Nat => b2
    refine wp_drawn 10 mixed (by kernel_rfl) hk hS ?_; clear hk hS a
    (repeat' (first | (show ObxE _ _ _ _ _ _ _ _ _ (_ :: _) _ _ _; first | refine ox1 ?_ | (refine ox2 ?_ ?_ <;> intro hp) | fail) | fail))
    refine' obe_res (fun us a w hk hd hS => ?_) ?_; rotate_left; focus (have hk := Kn.vw hk (by repeat (first | exact VW.nil | apply VW.val rfl | apply VW.base rfl rfl | apply VW.res rfl | apply VW.upd rfl | apply VW.cpy rfl | apply VW.dep rfl | apply VW.fn rfl | apply VW.lnd rfl | apply VW.tak rfl)); exact g_callO hk (hf := by kernel_rfl) (hc := clean_any cl _ _ (hS.rdT c1) (by omega)) (h := fun _ _ h => h))
    (repeat' (first | (show ObxE _ _ _ _ _ _ _ _ _ (_ :: _) _ _ _; first | refine ox1 ?_ | (refine ox2 ?_ ?_ <;> intro hp) | fail) | fail))
    refine' obe_res (fun us a w hk hd hS => ?_) ?_; rotate_left; focus (have hk := Kn.vw hk (by repeat (first | exact VW.nil | apply VW.val rfl | apply VW.base rfl rfl | apply VW.res rfl | apply VW.upd rfl | apply VW.cpy rfl | apply VW.dep rfl | apply VW.fn rfl | apply VW.lnd rfl | apply VW.tak rfl)); exact g_callO hk (hf := by kernel_rfl) (hc := ofS_any al _ _ (hS.rdT c2) (by omega)) (h := fun _ _ h => h))
    (repeat' (first | (show ObxE _ _ _ _ _ _ _ _ _ (_ :: _) _ _ _; first | refine ox1 ?_ | (refine ox2 ?_ ?_ <;> intro hp) | fail) | fail))
    refine' obe_res (fun us a w hk hd hS => ?_) ?_; rotate_left; focus (have hk := Kn.vw hk (by repeat (first | exact VW.nil | apply VW.val rfl | apply VW.base rfl rfl | apply VW.res rfl | apply VW.upd rfl | apply VW.cpy rfl | apply VW.dep rfl | apply VW.fn rfl | apply VW.lnd rfl | apply VW.tak rfl)); exact g_callO hk (hf := by kernel_rfl) (hc := ofI_any sl _ _ (hS.rdT c3) (by omega)) (h := fun _ _ h => h))
    (repeat' (first | (show ObxE _ _ _ _ _ _ _ _ _ (_ :: _) _ _ _; first | refine ox1 ?_ | (refine ox2 ?_ ?_ <;> intro hp) | fail) | fail))
    refine obe_nil ⟨rfl, ?_⟩; intro us a w hk hS
    simp only [resE, List.cons_append, List.nil_append, Nat.zero_add, Nat.reduceAdd] at hS
    replace hk := Kn.kp [1, 2, 9, 12, 15, 16] hk
    simp only [HV.of, Nat.zero_add, Nat.reduceAdd] at hk
    generalize us 2 = v9 at hS hk
    generalize us 5 = v12 at hS hk
    generalize us 8 = v15 at hS hk
    obtain ⟨aov9, cv9, hshp, _⟩ := (OwT.rd (hS.rd (A := OwT 9 _ v9) (by (repeat (first | exact At.here | apply At.there))))).shape; subst hshp
    obtain ⟨aov12, cv12, hshp, _⟩ := (OwT.rd (hS.rd (A := OwT 98 _ v12) (by (repeat (first | exact At.here | apply At.there))))).shape; subst hshp
    obtain ⟨aov15, cv15, hshp, _⟩ := (OwT.rd (hS.rd (A := OwT 103 _ v15) (by (repeat (first | exact At.here | apply At.there))))).shape; subst hshp
    have c4' := hS.rdT c4
    (repeat' (first | (show wpListIn _ _ _ _ _ (_ :: _) _ _; first | (refine wx1 ?_; clear hk a; intro a hk) | (refine wx2 ?_ ?_ <;> (intro hp; clear hk a; intro a hk)) | (refine wx3 ?_; clear hk hS a; intro w b hS a hk) | (refine wx4 ?_; clear hk hS a; intro w hS a hk) | (refine wx5 ?_; clear hk hS a; intro w v hS a hk) | fail) | refine wx0 ?_ | (refine s_end hk ?_; clear hk a; intro a hk) | fail))
    replace hS := forR.nil (hS.nilT 44 NdH)
    replace hk := Kn.kp [1, 2, 3, 20, 21, 22] hk
    refine wp_for H.length (fun i v => [(3, .slice v.a v.H.length v.c), (22, .int .i64 (i : Int))]) (fun i v => [forR (mrg (nrmL (kids.take i))) v.H, OwT 44 v.H (.slice v.a v.H.length v.c), OwT 103 (snapF nmI sl) (.slice aov15 (snapF nmI sl).length cv15), OwT 98 (snapF nmS al) (.slice aov12 (snapF nmS al).length cv12), OwT 9 (clnC cl) (.slice aov9 (clnC cl).length cv9), pts b2 [.int .i64 0, .string ⟨#[]⟩, .string ⟨#[]⟩, .string ⟨#[]⟩, .slice none 0 0, .slice none 0 0, .slice none 0 0, .int .i64 0, .int .i64 0, .int .i64 0, .int .i64 0, .bool false, .bool false, .slice none 0 0] 44, pts b1 [.int .i64 k, .string tag, .string key, .string text, .slice aov9 (clnC cl).length cv9, .slice aov12 (snapF nmS al).length cv12, .slice aov15 (snapF nmI sl).length cv15, .int .i64 e, .int .i64 lv, .int .i64 m, .int .i64 d, .bool p, .bool q, .slice a4 H.length m4] 44]) (fun _ _ => True) (⟨[], none, 0⟩ : N2) hk (by repeat (first | exact trivial | refine ⟨rfl, ?_⟩)) hS.sb trivial ?_
    clear hk hS a c4'
    rintro i ⟨H1, ao1, cc1⟩ a w hi hk hS -
    have hFM := hS.foR .here
    have hnl := nrmL_len (kids.take i)
    have hml := mrg_len (nrmL (kids.take i))
    rw [List.length_take] at hnl
    simp only at hS hk hFM
    have hH1 : H1.length = (mrg (nrmL (kids.take i))).length := hFM.1
    have c4' := hS.rdT c4
    by_cases hil : i < H.length
    · obtain ⟨tk, htk⟩ : ∃ t, kids[i]? = some t := ⟨_, List.getElem?_eq_getElem (by omega)⟩
      obtain ⟨hd0, hx⟩ : ∃ x, H[i]? = some x := ⟨_, List.getElem?_eq_getElem hil⟩
      have hTr := hF.2 i tk hd0 htk hx
      have hfk := l6 tk (List.mem_of_getElem? htk)
      have hlt : SizeOf.sizeOf tk < n := by have := kid_lt (k := k) (tag := tag) (key := key) (text := text) (cl := cl) (at_ := al) (st := sl) (o := (e, lv, m, d, p, q)) (List.mem_of_getElem? htk); omega
      have hst := nrmL_snoc (kids.take i) tk
      rw [← take_snoc htk] at hst
      have htT : txtL (nrmL (kids.take i)) ≤ X * 1000 := by
        have h1 := nrmL_txt (kids.take i) (fun t ht => l6 t (List.mem_of_mem_take ht))
        have h2 : X * (kids.take i).length ≤ X * 1000 := Nat.mul_le_mul_left X (by rw [List.length_take]; omega)
        omega
      have htm := mrg_txt (nrmL (kids.take i))
      have htk5 := hfk.text
      have hnk := nrm_kind tk
      have hnt := nrm_text tk
      obtain ⟨k', tag', key', text', cl', al', sl', e', lv', m', d', p', q', kids', x1, x2, y1, y2, z1, z2, u1, u2, H', rfl, rfl, _⟩ := hTr.split
      (repeat' (first | (show wpListIn _ _ _ _ _ (_ :: _) _ _; first | (refine wx1 ?_; clear hk a; intro a hk) | (refine wx2 ?_ ?_ <;> (intro hp; clear hk a; intro a hk)) | (refine wx3 ?_; clear hk hS a; intro w b hS a hk) | (refine wx4 ?_; clear hk hS a; intro w hS a hk) | (refine wx5 ?_; clear hk hS a; intro w v hS a hk) | fail) | refine wx0 ?_ | (refine s_end hk ?_; clear hk a; intro a hk) | fail))
      refine sg hk (g_callO hk (hf := by kernel_rfl) (hc := ih _ _ _ hlt hfk (hS.rdTr hTr)) (h := ?_)); clear hk a; rintro vn w hS1 a hk; replace hS := hS.call hS1; clear hS1
      rw [List.cons_append, List.nil_append] at hS
      obtain ⟨hd1, rfl, hS1⟩ := St.tree hS .here
      clear hS
      have hS := hS1
      clear hS1
      obtain ⟨k2, tag2, key2, text2, cl2, al2, sl2, e2, lv2, m2, d2, p2, q2, kids2, x12, x32, y12, y32, z12, z32, u12, u32, H2, hn2, rfl, _⟩ := (hS.trR .here).split
      rw [hn2] at hnk hnt
      simp only [Tree.kind, Tree.text] at hnk hnt htk5
      have htk6 : text2.size ≤ X := by rw [hnt]; exact htk5
      have hvoid : Tree.void (.mk k' tag' key' text' cl' al' sl' (e', lv', m', d', p', q') kids') ↔ k2 = 1 ∧ text2 = ⟨#[]⟩ := by rw [hnk, hnt]; exact Iff.rfl
      rw [hn2] at hS hst
      by_cases hvd : k2 = 1 ∧ text2 = ⟨#[]⟩
      · rw [if_pos (hvoid.2 hvd)] at hst
        obtain ⟨rfl, rfl⟩ := hvd
        (repeat' (first | (show wpListIn _ _ _ _ _ (_ :: _) _ _; first | (refine wx1 ?_; clear hk a; intro a hk) | (refine wx2 ?_ ?_ <;> (intro hp; clear hk a; intro a hk)) | (refine wx3 ?_; clear hk hS a; intro w b hS a hk) | (refine wx4 ?_; clear hk hS a; intro w hS a hk) | (refine wx5 ?_; clear hk hS a; intro w v hS a hk) | fail) | refine wx0 ?_ | (refine s_end hk ?_; clear hk a; intro a hk) | fail))
        rw [← hst] at hS
        exact ⟨hil, ⟨H1, ao1, cc1⟩, hk.sd, hS.sb, trivial⟩
      · rw [if_neg (fun h => hvd (hvoid.1 h))] at hst
        have hst2 := mrg_snoc (nrmL (kids.take i)) (.mk k2 tag2 key2 text2 cl2 al2 sl2 (e2, lv2, m2, d2, p2, q2) kids2)
        rw [← hst] at hst2
        generalize mrg (nrmL (kids.take i)) = M0 at *
        rcases List.eq_nil_or_concat M0 with rfl | ⟨M, u, hMu⟩
        · have hH10 : H1 = [] := by cases H1 with | nil => rfl | cons x xs => simp at hH1
          subst hH10
          have hst' : mrg (nrmL (kids.take (i + 1))) = [] ++ [.mk k2 tag2 key2 text2 cl2 al2 sl2 (e2, lv2, m2, d2, p2, q2) kids2] := by rw [hst2]; rfl
          have hl0 : ([] : List NdH).length = 0 := rfl
          (repeat' (first | (show wpListIn _ _ _ _ _ (_ :: _) _ _; first | (refine wx1 ?_; clear hk a; intro a hk) | (refine wx2 ?_ ?_ <;> (intro hp; clear hk a; intro a hk)) | (refine wx3 ?_; clear hk hS a; intro w b hS a hk) | (refine wx4 ?_; clear hk hS a; intro w hS a hk) | (refine wx5 ?_; clear hk hS a; intro w v hS a hk) | fail) | refine wx0 ?_ | (refine s_end hk ?_; clear hk a; intro a hk) | fail))
          all_goals (try (exfalso; exact hvd ⟨by assumption, by assumption⟩))
          all_goals (
            refine sg hk (g_bsT (xs := [((k2, tag2, key2, text2, ⟨x12, cl2.length, x32⟩, ⟨y12, al2.length, y32⟩, ⟨z12, sl2.length, z32⟩, (e2, lv2, m2, d2, p2, q2), ⟨u12, H2.length, u32⟩) : NdH)]) (m := 0) hk hS ?_ (hT := eT rfl) (hE := zT rfl) (hz := oT rfl)); clear hk hS a; intro w ve hS a hk
            (repeat' (first | (show wpListIn _ _ _ _ _ (_ :: _) _ _; first | (refine wx1 ?_; clear hk a; intro a hk) | (refine wx2 ?_ ?_ <;> (intro hp; clear hk a; intro a hk)) | (refine wx3 ?_; clear hk hS a; intro w b hS a hk) | (refine wx4 ?_; clear hk hS a; intro w hS a hk) | (refine wx5 ?_; clear hk hS a; intro w v hS a hk) | fail) | refine wx0 ?_ | (refine s_end hk ?_; clear hk a; intro a hk) | fail))
            rename Value => vf
            obtain ⟨aovf, cvf, hshp, _⟩ := (OwT.rd (hS.rd (A := OwT 44 _ vf) (by (repeat (first | exact At.here | apply At.there))))).shape; subst hshp
            generalize ((k2, tag2, key2, text2, ⟨x12, cl2.length, x32⟩, ⟨y12, al2.length, y32⟩, ⟨z12, sl2.length, z32⟩, (e2, lv2, m2, d2, p2, q2), ⟨u12, H2.length, u32⟩) : NdH) = hd1 at hS hk
            have hS1 := forR.snoc (ts := ([] : List Tree)) (H := ([] : List NdH)) (t := .mk k2 tag2 key2 text2 cl2 al2 sl2 (e2, lv2, m2, d2, p2, q2) kids2) (h := hd1) (L := [OwT 44 (([] : List NdH) ++ [hd1]) (.slice aovf (([] : List NdH) ++ [hd1]).length cvf), OwT 103 (snapF nmI sl) (.slice aov15 (snapF nmI sl).length cv15), OwT 98 (snapF nmS al) (.slice aov12 (snapF nmS al).length cv12), OwT 9 (clnC cl) (.slice aov9 (clnC cl).length cv9), pts b2 [.int .i64 0, .string ⟨#[]⟩, .string ⟨#[]⟩, .string ⟨#[]⟩, .slice none 0 0, .slice none 0 0, .slice none 0 0, .int .i64 0, .int .i64 0, .int .i64 0, .int .i64 0, .bool false, .bool false, .slice none 0 0] 44, pts b1 [.int .i64 k, .string tag, .string key, .string text, .slice aov9 (clnC cl).length cv9, .slice aov12 (snapF nmS al).length cv12, .slice aov15 (snapF nmI sl).length cv15, .int .i64 e, .int .i64 lv, .int .i64 m, .int .i64 d, .bool p, .bool q, .slice a4 H.length m4] 44]) (hS.sub (by (repeat (first | exact Sub.nil | exact Sub.refl | refine Sub.cons (by (repeat (first | exact At.here | apply At.there))) ?_))))
            rw [← hst'] at hS1
            exact ⟨hil, ⟨([] : List NdH) ++ [hd1], aovf, cvf⟩, hk.sd, hS1, trivial⟩)
        · rw [List.concat_eq_append] at hMu
          subst hMu
          have hne : H1 ≠ [] := by intro e0; subst e0; simp at hH1
          obtain ⟨Hd0, hdu, rfl⟩ : ∃ Hd0 h, H1 = Hd0 ++ [h] := ⟨H1.dropLast, H1.getLast hne, (List.dropLast_concat_getLast hne).symm⟩
          have hpos : 1 ≤ (Hd0 ++ [hdu]).length := by simp
          have hum : u ∈ M ++ [u] := by simp
          have htu := txtL_mem hum
          obtain ⟨ku, tagu, keyu, textu, clu, alu, slu, eu, lvu, mu, du, pu, qu, kidsu, xu1, xu2, yu1, yu2, zu1, zu2, uu1, uu2, Hu, rfl, rfl, _⟩ := hFM.init.2.split
          simp only [Tree.text] at htu
          have hxu : (Hd0 ++ [((ku, tagu, keyu, textu, ⟨xu1, clu.length, xu2⟩, ⟨yu1, alu.length, yu2⟩, ⟨zu1, slu.length, zu2⟩, (eu, lvu, mu, du, pu, qu), ⟨uu1, Hu.length, uu2⟩) : NdH)])[(((Hd0 ++ [((ku, tagu, keyu, textu, ⟨xu1, clu.length, xu2⟩, ⟨yu1, alu.length, yu2⟩, ⟨zu1, slu.length, zu2⟩, (eu, lvu, mu, du, pu, qu), ⟨uu1, Hu.length, uu2⟩) : NdH)]).length : Int) - 1).toNat]? = some ((ku, tagu, keyu, textu, ⟨xu1, clu.length, xu2⟩, ⟨yu1, alu.length, yu2⟩, ⟨zu1, slu.length, zu2⟩, (eu, lvu, mu, du, pu, qu), ⟨uu1, Hu.length, uu2⟩) : NdH) := by
            rw [List.length_append, List.length_singleton, show (((Hd0.length + 1 : Nat) : Int) - 1).toNat = Hd0.length by omega]
            simp
          rw [mrgS_app] at hst2
          simp only [Tree.kind, Tree.text, Tree.plus] at hst2
          by_cases hmg : k2 = 1 ∧ ku = 1
          · replace hst2 := hst2.trans (if_pos hmg)
            obtain ⟨hk1, hku⟩ := hmg
            have hte : ¬ text2 = ⟨#[]⟩ := fun h => hvd ⟨hk1, h⟩
            (repeat' (first | (show wpListIn _ _ _ _ _ (_ :: _) _ _; first | (refine wx1 ?_; clear hk a; intro a hk) | (refine wx2 ?_ ?_ <;> (intro hp; clear hk a; intro a hk)) | (refine wx3 ?_; clear hk hS a; intro w b hS a hk) | (refine wx4 ?_; clear hk hS a; intro w hS a hk) | (refine wx5 ?_; clear hk hS a; intro w v hS a hk) | fail) | refine wx0 ?_ | (refine s_end hk ?_; clear hk a; intro a hk) | fail))
            refine wp_drawn 10 mixed (by kernel_rfl) hk hS ?_; clear hk hS a
            (repeat' (first | (show ObxE _ _ _ _ _ _ _ _ _ (_ :: _) _ _ _; first | refine ox1 ?_ | (refine ox2 ?_ ?_ <;> intro hp) | fail) | fail))
            refine' obe_val (fun us a w hk hd hS => ?_) ?_; rotate_left; focus (have hk := Kn.vw hk (by repeat (first | exact VW.nil | apply VW.val rfl | apply VW.base rfl rfl | apply VW.res rfl | apply VW.upd rfl | apply VW.cpy rfl | apply VW.dep rfl | apply VW.fn rfl | apply VW.lnd rfl | apply VW.tak rfl)); exact g_cat hk (same _ _) (hl := by simp only [maxLen]; omega))
            (repeat' (first | (show ObxE _ _ _ _ _ _ _ _ _ (_ :: _) _ _ _; first | refine ox1 ?_ | (refine ox2 ?_ ?_ <;> intro hp) | fail) | fail))
            refine obe_nil ⟨rfl, ?_⟩; intro us a w hk hS
            have hgl : ∀ h, (Hd0 ++ [((ku, tagu, keyu, textu, ⟨xu1, clu.length, xu2⟩, ⟨yu1, alu.length, yu2⟩, ⟨zu1, slu.length, zu2⟩, (eu, lvu, mu, du, pu, qu), ⟨uu1, Hu.length, uu2⟩) : NdH)])[Hd0.length]'h = ((ku, tagu, keyu, textu, ⟨xu1, clu.length, xu2⟩, ⟨yu1, alu.length, yu2⟩, ⟨zu1, slu.length, zu2⟩, (eu, lvu, mu, du, pu, qu), ⟨uu1, Hu.length, uu2⟩) : NdH) := by intro h; rw [List.getElem_append_right (Nat.le_refl _)]; simp
            refine su hk (g_stF (xs := Hd0 ++ [((ku, tagu, keyu, textu, ⟨xu1, clu.length, xu2⟩, ⟨yu1, alu.length, yu2⟩, ⟨zu1, slu.length, zu2⟩, (eu, lvu, mu, du, pu, qu), ⟨uu1, Hu.length, uu2⟩) : NdH)]) (i := Hd0.length) (f := 3) (z := ((ku, tagu, keyu, textu ++ text2, ⟨xu1, clu.length, xu2⟩, ⟨yu1, alu.length, yu2⟩, ⟨zu1, slu.length, zu2⟩, (eu, lvu, mu, du, pu, qu), ⟨uu1, Hu.length, uu2⟩) : NdH)) hk hS ?_ (ho := by rw [List.length_append, List.length_singleton, show (((Hd0.length + 1 : Nat) : Int) - 1).toNat = Hd0.length by omega]) (hi := by simp) (hf := by decide) (hz := by rw [hgl]; rfl) (hsz := zT rfl))
            clear hk hS a; intro w hS a hk
            have hset : (Hd0 ++ [((ku, tagu, keyu, textu, ⟨xu1, clu.length, xu2⟩, ⟨yu1, alu.length, yu2⟩, ⟨zu1, slu.length, zu2⟩, (eu, lvu, mu, du, pu, qu), ⟨uu1, Hu.length, uu2⟩) : NdH)]).set Hd0.length ((ku, tagu, keyu, textu ++ text2, ⟨xu1, clu.length, xu2⟩, ⟨yu1, alu.length, yu2⟩, ⟨zu1, slu.length, zu2⟩, (eu, lvu, mu, du, pu, qu), ⟨uu1, Hu.length, uu2⟩) : NdH) = Hd0 ++ [((ku, tagu, keyu, textu ++ text2, ⟨xu1, clu.length, xu2⟩, ⟨yu1, alu.length, yu2⟩, ⟨zu1, slu.length, zu2⟩, (eu, lvu, mu, du, pu, qu), ⟨uu1, Hu.length, uu2⟩) : NdH)] := by simp
            rw [hset] at hS
            have hle : (Hd0 ++ [((ku, tagu, keyu, textu, ⟨xu1, clu.length, xu2⟩, ⟨yu1, alu.length, yu2⟩, ⟨zu1, slu.length, zu2⟩, (eu, lvu, mu, du, pu, qu), ⟨uu1, Hu.length, uu2⟩) : NdH)]).length = (Hd0 ++ [((ku, tagu, keyu, textu ++ text2, ⟨xu1, clu.length, xu2⟩, ⟨yu1, alu.length, yu2⟩, ⟨zu1, slu.length, zu2⟩, (eu, lvu, mu, du, pu, qu), ⟨uu1, Hu.length, uu2⟩) : NdH)]).length := by simp
            (repeat' (first | (show wpListIn _ _ _ _ _ (_ :: _) _ _; first | (refine wx1 ?_; clear hk a; intro a hk) | (refine wx2 ?_ ?_ <;> (intro hp; clear hk a; intro a hk)) | (refine wx3 ?_; clear hk hS a; intro w b hS a hk) | (refine wx4 ?_; clear hk hS a; intro w hS a hk) | (refine wx5 ?_; clear hk hS a; intro w v hS a hk) | fail) | refine wx0 ?_ | (refine s_end hk ?_; clear hk a; intro a hk) | fail))
            have hS1 := rdH.imp (R' := fun w => FoR w (mrg (nrmL (kids.take (i + 1)))) (Hd0 ++ [((ku, tagu, keyu, textu ++ text2, ⟨xu1, clu.length, xu2⟩, ⟨yu1, alu.length, yu2⟩, ⟨zu1, slu.length, zu2⟩, (eu, lvu, mu, du, pu, qu), ⟨uu1, Hu.length, uu2⟩) : NdH)])) (L := [OwT 44 (Hd0 ++ [((ku, tagu, keyu, textu ++ text2, ⟨xu1, clu.length, xu2⟩, ⟨yu1, alu.length, yu2⟩, ⟨zu1, slu.length, zu2⟩, (eu, lvu, mu, du, pu, qu), ⟨uu1, Hu.length, uu2⟩) : NdH)]) (.slice ao1 (Hd0 ++ [((ku, tagu, keyu, textu, ⟨xu1, clu.length, xu2⟩, ⟨yu1, alu.length, yu2⟩, ⟨zu1, slu.length, zu2⟩, (eu, lvu, mu, du, pu, qu), ⟨uu1, Hu.length, uu2⟩) : NdH)]).length cc1), OwT 103 (snapF nmI sl) (.slice aov15 (snapF nmI sl).length cv15), OwT 98 (snapF nmS al) (.slice aov12 (snapF nmS al).length cv12), OwT 9 (clnC cl) (.slice aov9 (clnC cl).length cv9), pts b2 [.int .i64 0, .string ⟨#[]⟩, .string ⟨#[]⟩, .string ⟨#[]⟩, .slice none 0 0, .slice none 0 0, .slice none 0 0, .int .i64 0, .int .i64 0, .int .i64 0, .int .i64 0, .bool false, .bool false, .slice none 0 0] 44, pts b1 [.int .i64 k, .string tag, .string key, .string text, .slice aov9 (clnC cl).length cv9, .slice aov12 (snapF nmS al).length cv12, .slice aov15 (snapF nmI sl).length cv15, .int .i64 e, .int .i64 lv, .int .i64 m, .int .i64 d, .bool p, .bool q, .slice a4 H.length m4] 44]) (hS.sub (by (repeat (first | exact Sub.nil | exact Sub.refl | refine Sub.cons (by (repeat (first | exact At.here | apply At.there))) ?_)))) (FoR.stays (M ++ [.mk ku tagu keyu textu clu alu slu (eu, lvu, mu, du, pu, qu) kidsu]) (Hd0 ++ [((ku, tagu, keyu, textu, ⟨xu1, clu.length, xu2⟩, ⟨yu1, alu.length, yu2⟩, ⟨zu1, slu.length, zu2⟩, (eu, lvu, mu, du, pu, qu), ⟨uu1, Hu.length, uu2⟩) : NdH)])) (fun g hg => by rw [hst2]; exact FoR.plus hg)
            rw [hle] at hS1
            rw [hle] at hk
            exact ⟨hil, ⟨Hd0 ++ [((ku, tagu, keyu, textu ++ text2, ⟨xu1, clu.length, xu2⟩, ⟨yu1, alu.length, yu2⟩, ⟨zu1, slu.length, zu2⟩, (eu, lvu, mu, du, pu, qu), ⟨uu1, Hu.length, uu2⟩) : NdH)], ao1, cc1⟩, hk.sd, hS1, trivial⟩
          · replace hst2 := hst2.trans (if_neg hmg)
            have hst' := hst2
            clear hst2
            by_cases hk1 : k2 = 1
            · have hkp : ¬ ku = 1 := fun h => hmg ⟨hk1, h⟩
              have hte : ¬ text2 = ⟨#[]⟩ := fun h => hvd ⟨hk1, h⟩
              (repeat' (first | (show wpListIn _ _ _ _ _ (_ :: _) _ _; first | (refine wx1 ?_; clear hk a; intro a hk) | (refine wx2 ?_ ?_ <;> (intro hp; clear hk a; intro a hk)) | (refine wx3 ?_; clear hk hS a; intro w b hS a hk) | (refine wx4 ?_; clear hk hS a; intro w hS a hk) | (refine wx5 ?_; clear hk hS a; intro w v hS a hk) | fail) | refine wx0 ?_ | (refine s_end hk ?_; clear hk a; intro a hk) | fail))
              refine sg hk (g_bsT (xs := [((k2, tag2, key2, text2, ⟨x12, cl2.length, x32⟩, ⟨y12, al2.length, y32⟩, ⟨z12, sl2.length, z32⟩, (e2, lv2, m2, d2, p2, q2), ⟨u12, H2.length, u32⟩) : NdH)]) (m := 0) hk hS ?_ (hT := eT rfl) (hE := zT rfl) (hz := oT rfl)); clear hk hS a; intro w ve hS a hk
              (repeat' (first | (show wpListIn _ _ _ _ _ (_ :: _) _ _; first | (refine wx1 ?_; clear hk a; intro a hk) | (refine wx2 ?_ ?_ <;> (intro hp; clear hk a; intro a hk)) | (refine wx3 ?_; clear hk hS a; intro w b hS a hk) | (refine wx4 ?_; clear hk hS a; intro w hS a hk) | (refine wx5 ?_; clear hk hS a; intro w v hS a hk) | fail) | refine wx0 ?_ | (refine s_end hk ?_; clear hk a; intro a hk) | fail))
              rename Value => vf
              obtain ⟨aovf, cvf, hshp, _⟩ := (OwT.rd (hS.rd (A := OwT 44 _ vf) (by (repeat (first | exact At.here | apply At.there))))).shape; subst hshp
              generalize ((k2, tag2, key2, text2, ⟨x12, cl2.length, x32⟩, ⟨y12, al2.length, y32⟩, ⟨z12, sl2.length, z32⟩, (e2, lv2, m2, d2, p2, q2), ⟨u12, H2.length, u32⟩) : NdH) = hd1 at hS hk
              have hS1 := forR.snoc (ts := (M ++ [.mk ku tagu keyu textu clu alu slu (eu, lvu, mu, du, pu, qu) kidsu])) (H := (Hd0 ++ [((ku, tagu, keyu, textu, ⟨xu1, clu.length, xu2⟩, ⟨yu1, alu.length, yu2⟩, ⟨zu1, slu.length, zu2⟩, (eu, lvu, mu, du, pu, qu), ⟨uu1, Hu.length, uu2⟩) : NdH)])) (t := .mk k2 tag2 key2 text2 cl2 al2 sl2 (e2, lv2, m2, d2, p2, q2) kids2) (h := hd1) (L := [OwT 44 ((Hd0 ++ [((ku, tagu, keyu, textu, ⟨xu1, clu.length, xu2⟩, ⟨yu1, alu.length, yu2⟩, ⟨zu1, slu.length, zu2⟩, (eu, lvu, mu, du, pu, qu), ⟨uu1, Hu.length, uu2⟩) : NdH)]) ++ [hd1]) (.slice aovf ((Hd0 ++ [((ku, tagu, keyu, textu, ⟨xu1, clu.length, xu2⟩, ⟨yu1, alu.length, yu2⟩, ⟨zu1, slu.length, zu2⟩, (eu, lvu, mu, du, pu, qu), ⟨uu1, Hu.length, uu2⟩) : NdH)]) ++ [hd1]).length cvf), OwT 103 (snapF nmI sl) (.slice aov15 (snapF nmI sl).length cv15), OwT 98 (snapF nmS al) (.slice aov12 (snapF nmS al).length cv12), OwT 9 (clnC cl) (.slice aov9 (clnC cl).length cv9), pts b2 [.int .i64 0, .string ⟨#[]⟩, .string ⟨#[]⟩, .string ⟨#[]⟩, .slice none 0 0, .slice none 0 0, .slice none 0 0, .int .i64 0, .int .i64 0, .int .i64 0, .int .i64 0, .bool false, .bool false, .slice none 0 0] 44, pts b1 [.int .i64 k, .string tag, .string key, .string text, .slice aov9 (clnC cl).length cv9, .slice aov12 (snapF nmS al).length cv12, .slice aov15 (snapF nmI sl).length cv15, .int .i64 e, .int .i64 lv, .int .i64 m, .int .i64 d, .bool p, .bool q, .slice a4 H.length m4] 44]) (hS.sub (by (repeat (first | exact Sub.nil | exact Sub.refl | refine Sub.cons (by (repeat (first | exact At.here | apply At.there))) ?_))))
              rw [← hst'] at hS1
              exact ⟨hil, ⟨(Hd0 ++ [((ku, tagu, keyu, textu, ⟨xu1, clu.length, xu2⟩, ⟨yu1, alu.length, yu2⟩, ⟨zu1, slu.length, zu2⟩, (eu, lvu, mu, du, pu, qu), ⟨uu1, Hu.length, uu2⟩) : NdH)]) ++ [hd1], aovf, cvf⟩, hk.sd, hS1, trivial⟩
            · (repeat' (first | (show wpListIn _ _ _ _ _ (_ :: _) _ _; first | (refine wx1 ?_; clear hk a; intro a hk) | (refine wx2 ?_ ?_ <;> (intro hp; clear hk a; intro a hk)) | (refine wx3 ?_; clear hk hS a; intro w b hS a hk) | (refine wx4 ?_; clear hk hS a; intro w hS a hk) | (refine wx5 ?_; clear hk hS a; intro w v hS a hk) | fail) | refine wx0 ?_ | (refine s_end hk ?_; clear hk a; intro a hk) | fail))
              refine sg hk (g_bsT (xs := [((k2, tag2, key2, text2, ⟨x12, cl2.length, x32⟩, ⟨y12, al2.length, y32⟩, ⟨z12, sl2.length, z32⟩, (e2, lv2, m2, d2, p2, q2), ⟨u12, H2.length, u32⟩) : NdH)]) (m := 0) hk hS ?_ (hT := eT rfl) (hE := zT rfl) (hz := oT rfl)); clear hk hS a; intro w ve hS a hk
              (repeat' (first | (show wpListIn _ _ _ _ _ (_ :: _) _ _; first | (refine wx1 ?_; clear hk a; intro a hk) | (refine wx2 ?_ ?_ <;> (intro hp; clear hk a; intro a hk)) | (refine wx3 ?_; clear hk hS a; intro w b hS a hk) | (refine wx4 ?_; clear hk hS a; intro w hS a hk) | (refine wx5 ?_; clear hk hS a; intro w v hS a hk) | fail) | refine wx0 ?_ | (refine s_end hk ?_; clear hk a; intro a hk) | fail))
              rename Value => vf
              obtain ⟨aovf, cvf, hshp, _⟩ := (OwT.rd (hS.rd (A := OwT 44 _ vf) (by (repeat (first | exact At.here | apply At.there))))).shape; subst hshp
              generalize ((k2, tag2, key2, text2, ⟨x12, cl2.length, x32⟩, ⟨y12, al2.length, y32⟩, ⟨z12, sl2.length, z32⟩, (e2, lv2, m2, d2, p2, q2), ⟨u12, H2.length, u32⟩) : NdH) = hd1 at hS hk
              have hS1 := forR.snoc (ts := (M ++ [.mk ku tagu keyu textu clu alu slu (eu, lvu, mu, du, pu, qu) kidsu])) (H := (Hd0 ++ [((ku, tagu, keyu, textu, ⟨xu1, clu.length, xu2⟩, ⟨yu1, alu.length, yu2⟩, ⟨zu1, slu.length, zu2⟩, (eu, lvu, mu, du, pu, qu), ⟨uu1, Hu.length, uu2⟩) : NdH)])) (t := .mk k2 tag2 key2 text2 cl2 al2 sl2 (e2, lv2, m2, d2, p2, q2) kids2) (h := hd1) (L := [OwT 44 ((Hd0 ++ [((ku, tagu, keyu, textu, ⟨xu1, clu.length, xu2⟩, ⟨yu1, alu.length, yu2⟩, ⟨zu1, slu.length, zu2⟩, (eu, lvu, mu, du, pu, qu), ⟨uu1, Hu.length, uu2⟩) : NdH)]) ++ [hd1]) (.slice aovf ((Hd0 ++ [((ku, tagu, keyu, textu, ⟨xu1, clu.length, xu2⟩, ⟨yu1, alu.length, yu2⟩, ⟨zu1, slu.length, zu2⟩, (eu, lvu, mu, du, pu, qu), ⟨uu1, Hu.length, uu2⟩) : NdH)]) ++ [hd1]).length cvf), OwT 103 (snapF nmI sl) (.slice aov15 (snapF nmI sl).length cv15), OwT 98 (snapF nmS al) (.slice aov12 (snapF nmS al).length cv12), OwT 9 (clnC cl) (.slice aov9 (clnC cl).length cv9), pts b2 [.int .i64 0, .string ⟨#[]⟩, .string ⟨#[]⟩, .string ⟨#[]⟩, .slice none 0 0, .slice none 0 0, .slice none 0 0, .int .i64 0, .int .i64 0, .int .i64 0, .int .i64 0, .bool false, .bool false, .slice none 0 0] 44, pts b1 [.int .i64 k, .string tag, .string key, .string text, .slice aov9 (clnC cl).length cv9, .slice aov12 (snapF nmS al).length cv12, .slice aov15 (snapF nmI sl).length cv15, .int .i64 e, .int .i64 lv, .int .i64 m, .int .i64 d, .bool p, .bool q, .slice a4 H.length m4] 44]) (hS.sub (by (repeat (first | exact Sub.nil | exact Sub.refl | refine Sub.cons (by (repeat (first | exact At.here | apply At.there))) ?_))))
              rw [← hst'] at hS1
              exact ⟨hil, ⟨(Hd0 ++ [((ku, tagu, keyu, textu, ⟨xu1, clu.length, xu2⟩, ⟨yu1, alu.length, yu2⟩, ⟨zu1, slu.length, zu2⟩, (eu, lvu, mu, du, pu, qu), ⟨uu1, Hu.length, uu2⟩) : NdH)]) ++ [hd1], aovf, cvf⟩, hk.sd, hS1, trivial⟩
    · have hii : i = kids.length := by omega
      subst hii
      rw [List.take_length] at hS hH1 hml
      have hnn := nrmL_len kids
      have hn' : nrm (.mk k tag key text cl al sl (e, lv, m, d, p, q) kids) = .mk k tag key text (clnC cl) (snapF nmS al) (snapF nmI sl) (e, lv, m, d, p, q) (mrg (nrmL kids)) := by rw [nrm]
      rw [hn']
      (repeat' (first | (show wpListIn _ _ _ _ _ (_ :: _) _ _; first | (refine wx1 ?_; clear hk a; intro a hk) | (refine wx2 ?_ ?_ <;> (intro hp; clear hk a; intro a hk)) | (refine wx3 ?_; clear hk hS a; intro w b hS a hk) | (refine wx4 ?_; clear hk hS a; intro w hS a hk) | (refine wx5 ?_; clear hk hS a; intro w v hS a hk) | fail) | refine wx0 ?_ | (refine s_end hk ?_; clear hk a; intro a hk) | fail))
      refine done1R hk rfl (.str hS (hT := aT rfl) (hs := zT rfl)) (h := ?_)
      exact treeH.of (h := (k, tag, key, text, ⟨aov9, (clnC cl).length, cv9⟩, ⟨aov12, (snapF nmS al).length, cv12⟩, ⟨aov15, (snapF nmI sl).length, cv15⟩, (e, lv, m, d, p, q), ⟨ao1, H1.length, cc1⟩)) (treeR.of (A1 := OwT 9 (clnC cl) (.slice aov9 (clnC cl).length cv9)) (A2 := OwT 98 (snapF nmS al) (.slice aov12 (snapF nmS al).length cv12)) (A3 := OwT 103 (snapF nmI sl) (.slice aov15 (snapF nmI sl).length cv15)) (A4 := OwT 44 H1 (.slice ao1 H1.length cc1)) (hS.sub (by (repeat (first | exact Sub.nil | exact Sub.refl | refine Sub.cons (by (repeat (first | exact At.here | apply At.there))) ?_)))))
end Go.Proofs.YtkcjkbnbblpomaaGreatDoor
namespace Go.Proofs.YtkcjkbnbblpomaaGreatDoor
open Go.RowKit

noncomputable section
open Classical in
mutual
def samS : STree → STree → Bool
  | .mk _ k tag text cl al sl kids, .mk _ k' tag' text' cl' al' sl' kids' =>
    decide (k = k' ∧ tag = tag' ∧ text = text' ∧ cl = cl' ∧ snapF nmS al = snapF nmS al' ∧ snapF nmI sl = snapF nmI sl') && samSL kids kids'
def samSL : List STree → List STree → Bool
  | [], [] => true
  | t :: ts, u :: us => samS t u && samSL ts us
  | [], _ :: _ => false
  | _ :: _, [] => false
end
open Classical in
mutual
def eqS : STree → STree → Bool
  | .mk _ k tag text cl al sl kids, .mk _ k' tag' text' cl' al' sl' kids' =>
    decide (k = k' ∧ tag = tag' ∧ text = text' ∧ cl = cl' ∧ al = al' ∧ sl = sl') && eqSL kids kids'
def eqSL : List STree → List STree → Bool
  | [], [] => true
  | t :: ts, u :: us => eqS t u && eqSL ts us
  | [], _ :: _ => false
  | _ :: _, [] => false
end
end
theorem samSL_iff : ∀ (ts us : List STree), samSL ts us = true ↔ ts.length = us.length ∧ ∀ (i : Nat) (t u : STree), ts[i]? = some t → us[i]? = some u → samS t u = true
  | [], [] => by simp [samSL]
  | [], _ :: _ => by simp [samSL]
  | _ :: _, [] => by simp [samSL]
  | t :: ts, u :: us => by
    rw [samSL, Bool.and_eq_true, samSL_iff ts us]
    constructor
    · rintro ⟨h1, h2, h3⟩
      refine ⟨by simp [h2], fun i a b ha hb => ?_⟩
      cases i with
      | zero => simp at ha hb; subst ha hb; exact h1
      | succ i => simp at ha hb; exact h3 i a b ha hb
    · rintro ⟨h1, h2⟩
      exact ⟨h2 0 t u rfl rfl, by simpa using h1, fun i a b ha hb => h2 (i + 1) a b (by simpa using ha) (by simpa using hb)⟩
theorem eqSL_iff : ∀ (ts us : List STree), eqSL ts us = true ↔ ts.length = us.length ∧ ∀ (i : Nat) (t u : STree), ts[i]? = some t → us[i]? = some u → eqS t u = true
  | [], [] => by simp [eqSL]
  | [], _ :: _ => by simp [eqSL]
  | _ :: _, [] => by simp [eqSL]
  | t :: ts, u :: us => by
    rw [eqSL, Bool.and_eq_true, eqSL_iff ts us]
    constructor
    · rintro ⟨h1, h2, h3⟩
      refine ⟨by simp [h2], fun i a b ha hb => ?_⟩
      cases i with
      | zero => simp at ha hb; subst ha hb; exact h1
      | succ i => simp at ha hb; exact h3 i a b ha hb
    · rintro ⟨h1, h2⟩
      exact ⟨h2 0 t u rfl rfl, by simpa using h1, fun i a b ha hb => h2 (i + 1) a b (by simpa using ha) (by simpa using hb)⟩
theorem samS_iff {id id' k k' : Int} {tag text tag' text' : ByteArray} {cl cl' : List ByteArray} {al al' : List (ByteArray × ByteArray)} {sl sl' : List (ByteArray × Int)} {kids kids' : List STree} :
    samS (.mk id k tag text cl al sl kids) (.mk id' k' tag' text' cl' al' sl' kids') = true ↔
      (k = k' ∧ tag = tag' ∧ text = text' ∧ cl = cl' ∧ snapF nmS al = snapF nmS al' ∧ snapF nmI sl = snapF nmI sl') ∧ samSL kids kids' = true := by
  rw [samS, Bool.and_eq_true, decide_eq_true_iff]
theorem eqS_iff {id id' k k' : Int} {tag text tag' text' : ByteArray} {cl cl' : List ByteArray} {al al' : List (ByteArray × ByteArray)} {sl sl' : List (ByteArray × Int)} {kids kids' : List STree} :
    eqS (.mk id k tag text cl al sl kids) (.mk id' k' tag' text' cl' al' sl' kids') = true ↔
      (k = k' ∧ tag = tag' ∧ text = text' ∧ cl = cl' ∧ al = al' ∧ sl = sl') ∧ eqSL kids kids' = true := by
  rw [eqS, Bool.and_eq_true, decide_eq_true_iff]
theorem samS_refl : ∀ (n : Nat) (t : STree), SizeOf.sizeOf t < n → samS t t = true
  | 0, _, h => by omega
  | n + 1, .mk id k tag text cl al sl kids, h => by
    rw [samS_iff]
    refine ⟨⟨rfl, rfl, rfl, rfl, rfl, rfl⟩, (samSL_iff _ _).2 ⟨rfl, fun i t u ht hu => ?_⟩⟩
    rw [ht] at hu
    cases hu
    exact samS_refl n t (by have := skid_lt (id := id) (k := k) (tag := tag) (text := text) (cl := cl) (at_ := al) (st := sl) (List.mem_of_getElem? ht); omega)
theorem eqS_refl : ∀ (n : Nat) (t : STree), SizeOf.sizeOf t < n → eqS t t = true
  | 0, _, h => by omega
  | n + 1, .mk id k tag text cl al sl kids, h => by
    rw [eqS_iff]
    refine ⟨⟨rfl, rfl, rfl, rfl, rfl, rfl⟩, (eqSL_iff _ _).2 ⟨rfl, fun i t u ht hu => ?_⟩⟩
    rw [ht] at hu
    cases hu
    exact eqS_refl n t (by have := skid_lt (id := id) (k := k) (tag := tag) (text := text) (cl := cl) (at_ := al) (st := sl) (List.mem_of_getElem? ht); omega)
theorem samS_self (t : STree) : samS t t = true := samS_refl _ t (Nat.lt_succ_self _)
theorem eqS_self (t : STree) : eqS t t = true := eqS_refl _ t (Nat.lt_succ_self _)
theorem samS_false {t u : STree} (h : ¬ samS t u = true) : samS t u = false := by simpa using h
theorem eqS_false {t u : STree} (h : ¬ eqS t u = true) : eqS t u = false := by simpa using h
end Go.Proofs.YtkcjkbnbblpomaaGreatDoor
