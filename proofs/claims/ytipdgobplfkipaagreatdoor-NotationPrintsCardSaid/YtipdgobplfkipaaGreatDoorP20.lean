/- Layer 7: views as they are shown, by the program. Layer 7: the view of flat nodes. Layer 7: flat nodes, as the form reads them. Layer 8: each view is written as the document says: the law. -/
import Derived.Test.YtipdgobplfkipaaGreatDoorP19
import Derived.Test.YtipdgobplfkipaaGreatDoorP18
import Derived.Test.YtipdgobplfkipaaGreatDoorP08
import Derived.Test.YtipdgobplfkipaaGreatDoorP03
import Derived.Test.YtipdgobplfkipaaGreatDoorP15
import Derived.Test.YtipdgobplfkipaaGreatDoorP16
import Derived.Test.YtipdgobplfkipaaGreatDoorRows
import Derived.Lay
import Derived.SevenTiedAt
set_option linter.all false
namespace Go.Proofs.YtipdgobplfkipaaGreatDoor
open Go.RowKit
set_option maxRecDepth 100000
attribute [local irreducible] Go.Code.wpIn Go.wpListIn Go.Calls Gives Go.Exit.then Go.Exit.inBlock Done ObxE

set_option maxHeartbeats 8000000 in
theorem normal_any (X : Nat) (hX : X ≤ 1000000) : ∀ (n : Nat) (t : Tree) (h : NdH) (w0 : World), SizeOf.sizeOf t < n → Fit X t → TrR w0 t h → Calls Tryz.prog 19 #[ndV h] w0 (Ret fun v w => St w0 [treeH (nrm t) v] w)
  | 0, _, _, _, hn, _, _ => by omega
  | n + 1, t, h, w0, hn, hf, hr => by
    have ih := normal_any X hX n
    obtain ⟨k, tag, key, text, cl, al, sl, e, lv, m, d, p, q, kids, a1, m1, a2, m2, a3, m3, a4, m4, H, rfl, rfl, c1, c2, c3, c4, hF⟩ := hr.split
    obtain ⟨l1, l2, l3, l4, l5, l6⟩ := hf
    have hHk : H.length = kids.length := hF.1
    have hxx : X * kids.length ≤ 1000000 * 1000 := Nat.mul_le_mul hX l4
    have htxK := nrmL_txt kids l6
    show Calls Tryz.prog 19 #[.agg #[.int .i64 k, .string tag, .string key, .string text, .slice a1 cl.length m1, .slice a2 al.length m2, .slice a3 sl.length m3, .int .i64 e, .int .i64 lv, .int .i64 m, .int .i64 d, .bool p, .bool q, .slice a4 H.length m4]] w0 _
    refine enter Tryz.func19 rfl Tryz.ntmps19 rfl (fun a hk => ?_); have hS := St.refl w0
    (repeat' (first | (show wpListIn _ _ _ _ _ (_ :: _) _ _; first | (refine wx1 ?_; clear hk a; intro a hk) | (refine wx2 ?_ ?_ <;> (intro hp; clear hk a; intro a hk)) | (refine wx3 ?_; clear hk hS a; intro w b hS a hk) | (refine wx4 ?_; clear hk hS a; intro w hS a hk) | (refine wx5 ?_; clear hk hS a; intro w v hS a hk) | fail) | refine wx0 ?_ | (refine s_end hk ?_; clear hk a; intro a hk) | fail))
    rename_i b1
    rename Nat => b2
    refine wp_drawn 10 mixed (by kernel_rfl) hk hS ?_; clear hk hS a
    (repeat' (first | (show ObxE _ _ _ _ _ _ _ _ _ (_ :: _) _ _ _; first | refine ox1 ?_ | (refine ox2 ?_ ?_ <;> intro hp) | fail) | fail))
    refine' obe_res (fun us a w hk hd hS => ?_) ?_; rotate_left; focus (have hk := Kn.vw hk (by repeat (first | exact VW.nil | apply VW.val rfl | apply VW.base rfl rfl | apply VW.res rfl | apply VW.upd rfl | apply VW.cpy rfl | apply VW.dep rfl | apply VW.fn rfl | apply VW.lnd rfl | apply VW.tak rfl)); exact g_callO hk (hf := by kernel_rfl) (hc := clean_any cl _ _ (hS.rdT c1) (by omega)) (h := fun _ _ h => h))
    (repeat' (first | (show ObxE _ _ _ _ _ _ _ _ _ (_ :: _) _ _ _; first | refine ox1 ?_ | (refine ox2 ?_ ?_ <;> intro hp) | fail) | fail))
    refine' obe_res (fun us a w hk hd hS => ?_) ?_; rotate_left; focus (have hk := Kn.vw hk (by repeat (first | exact VW.nil | apply VW.val rfl | apply VW.base rfl rfl | apply VW.res rfl | apply VW.upd rfl | apply VW.cpy rfl | apply VW.dep rfl | apply VW.fn rfl | apply VW.lnd rfl | apply VW.tak rfl)); exact g_callO hk (hf := by kernel_rfl) (hc := ofS_any al _ _ (hS.rdT c2) (by omega)) (h := fun _ _ h => h))
    (repeat' (first | (show ObxE _ _ _ _ _ _ _ _ _ (_ :: _) _ _ _; first | refine ox1 ?_ | (refine ox2 ?_ ?_ <;> intro hp) | fail) | fail))
    refine' obe_res (fun us a w hk hd hS => ?_) ?_; rotate_left; focus (have hk := Kn.vw hk (by repeat (first | exact VW.nil | apply VW.val rfl | apply VW.base rfl rfl | apply VW.res rfl | apply VW.upd rfl | apply VW.cpy rfl | apply VW.dep rfl | apply VW.fn rfl | apply VW.lnd rfl | apply VW.tak rfl)); exact g_callO hk (hf := by kernel_rfl) (hc := ofI_any sl _ _ (hS.rdT c3) (by omega)) (h := fun _ _ h => h))
    (repeat' (first | (show ObxE _ _ _ _ _ _ _ _ _ (_ :: _) _ _ _; first | refine ox1 ?_ | (refine ox2 ?_ ?_ <;> intro hp) | fail) | fail))
    refine obe_nil ⟨rfl, ?_⟩; intro us a w hk hS
    simp only [resE, List.cons_append, List.nil_append, Nat.zero_add, Nat.reduceAdd] at hS
    replace hk := Kn.kp [1, 2, 9, 12, 15, 16] hk
    simp only [HV.of, Nat.zero_add, Nat.reduceAdd] at hk
    generalize us 2 = v9 at hS hk
    generalize us 5 = v12 at hS hk
    generalize us 8 = v15 at hS hk
    obtain ⟨aov9, cv9, hshp, _⟩ := (OwT.rd (hS.rd (A := OwT 9 _ v9) (by (repeat (first | exact At.here | apply At.there))))).shape; subst hshp
    obtain ⟨aov12, cv12, hshp, _⟩ := (OwT.rd (hS.rd (A := OwT 76 _ v12) (by (repeat (first | exact At.here | apply At.there))))).shape; subst hshp
    obtain ⟨aov15, cv15, hshp, _⟩ := (OwT.rd (hS.rd (A := OwT 77 _ v15) (by (repeat (first | exact At.here | apply At.there))))).shape; subst hshp
    have c4' := hS.rdT c4
    (repeat' (first | (show wpListIn _ _ _ _ _ (_ :: _) _ _; first | (refine wx1 ?_; clear hk a; intro a hk) | (refine wx2 ?_ ?_ <;> (intro hp; clear hk a; intro a hk)) | (refine wx3 ?_; clear hk hS a; intro w b hS a hk) | (refine wx4 ?_; clear hk hS a; intro w hS a hk) | (refine wx5 ?_; clear hk hS a; intro w v hS a hk) | fail) | refine wx0 ?_ | (refine s_end hk ?_; clear hk a; intro a hk) | fail))
    replace hS := forR.nil (hS.nilT 33 NdH)
    replace hk := Kn.kp [1, 2, 3, 20, 21, 22] hk
    refine wp_for H.length (fun i v => [(3, .slice v.a v.H.length v.c), (22, .int .i64 (i : Int))]) (fun i v => [forR (mrg (nrmL (kids.take i))) v.H, OwT 33 v.H (.slice v.a v.H.length v.c), OwT 77 (snapF nmI sl) (.slice aov15 (snapF nmI sl).length cv15), OwT 76 (snapF nmS al) (.slice aov12 (snapF nmS al).length cv12), OwT 9 (clnC cl) (.slice aov9 (clnC cl).length cv9), pts b2 [.int .i64 0, .string ⟨#[]⟩, .string ⟨#[]⟩, .string ⟨#[]⟩, .slice none 0 0, .slice none 0 0, .slice none 0 0, .int .i64 0, .int .i64 0, .int .i64 0, .int .i64 0, .bool false, .bool false, .slice none 0 0] 33, pts b1 [.int .i64 k, .string tag, .string key, .string text, .slice aov9 (clnC cl).length cv9, .slice aov12 (snapF nmS al).length cv12, .slice aov15 (snapF nmI sl).length cv15, .int .i64 e, .int .i64 lv, .int .i64 m, .int .i64 d, .bool p, .bool q, .slice a4 H.length m4] 33]) (fun _ _ => True) (⟨[], none, 0⟩ : N2) hk (by repeat (first | exact trivial | refine ⟨rfl, ?_⟩)) hS.sb trivial ?_
    clear hk hS a c4'
    rintro i ⟨H1, ao1, cc1⟩ a w hi hk hS -
    have hFM := hS.foR .here
    have hnl := nrmL_len (kids.take i)
    have hml := mrg_len (nrmL (kids.take i))
    rw [List.length_take] at hnl
    simp only at hS hk hFM
    have hH1 : H1.length = (mrg (nrmL (kids.take i))).length := hFM.1
    have c4' := hS.rdT c4
    by_cases hil : i < H.length
    · obtain ⟨tk, htk⟩ : ∃ t, kids[i]? = some t := ⟨_, List.getElem?_eq_getElem (by omega)⟩
      obtain ⟨hd0, hx⟩ : ∃ x, H[i]? = some x := ⟨_, List.getElem?_eq_getElem hil⟩
      have hTr := hF.2 i tk hd0 htk hx
      have hfk := l6 tk (List.mem_of_getElem? htk)
      have hlt : SizeOf.sizeOf tk < n := by have := kid_lt (k := k) (tag := tag) (key := key) (text := text) (cl := cl) (at_ := al) (st := sl) (o := (e, lv, m, d, p, q)) (List.mem_of_getElem? htk); omega
      have hst := nrmL_snoc (kids.take i) tk
      rw [← take_snoc htk] at hst
      have htT : txtL (nrmL (kids.take i)) ≤ X * 1000 := by
        have h1 := nrmL_txt (kids.take i) (fun t ht => l6 t (List.mem_of_mem_take ht))
        have h2 : X * (kids.take i).length ≤ X * 1000 := Nat.mul_le_mul_left X (by rw [List.length_take]; omega)
        omega
      have htm := mrg_txt (nrmL (kids.take i))
      have htk5 := hfk.text
      have hnk := nrm_kind tk
      have hnt := nrm_text tk
      obtain ⟨k', tag', key', text', cl', al', sl', e', lv', m', d', p', q', kids', x1, x2, y1, y2, z1, z2, u1, u2, H', rfl, rfl, _⟩ := hTr.split
      (repeat' (first | (show wpListIn _ _ _ _ _ (_ :: _) _ _; first | (refine wx1 ?_; clear hk a; intro a hk) | (refine wx2 ?_ ?_ <;> (intro hp; clear hk a; intro a hk)) | (refine wx3 ?_; clear hk hS a; intro w b hS a hk) | (refine wx4 ?_; clear hk hS a; intro w hS a hk) | (refine wx5 ?_; clear hk hS a; intro w v hS a hk) | fail) | refine wx0 ?_ | (refine s_end hk ?_; clear hk a; intro a hk) | fail))
      refine sg hk (g_callO hk (hf := by kernel_rfl) (hc := ih _ _ _ hlt hfk (hS.rdTr hTr)) (h := ?_)); clear hk a; rintro vn w hS1 a hk; replace hS := hS.call hS1; clear hS1
      rw [List.cons_append, List.nil_append] at hS
      obtain ⟨hd1, rfl, hS1⟩ := St.tree hS .here
      clear hS
      have hS := hS1
      clear hS1
      obtain ⟨k2, tag2, key2, text2, cl2, al2, sl2, e2, lv2, m2, d2, p2, q2, kids2, x12, x32, y12, y32, z12, z32, u12, u32, H2, hn2, rfl, _⟩ := (hS.trR .here).split
      rw [hn2] at hnk hnt
      simp only [Tree.kind, Tree.text] at hnk hnt htk5
      have htk6 : text2.size ≤ X := by rw [hnt]; exact htk5
      have hvoid : Tree.void (.mk k' tag' key' text' cl' al' sl' (e', lv', m', d', p', q') kids') ↔ k2 = 1 ∧ text2 = ⟨#[]⟩ := by rw [hnk, hnt]; exact Iff.rfl
      rw [hn2] at hS hst
      by_cases hvd : k2 = 1 ∧ text2 = ⟨#[]⟩
      · rw [if_pos (hvoid.2 hvd)] at hst
        obtain ⟨rfl, rfl⟩ := hvd
        (repeat' (first | (show wpListIn _ _ _ _ _ (_ :: _) _ _; first | (refine wx1 ?_; clear hk a; intro a hk) | (refine wx2 ?_ ?_ <;> (intro hp; clear hk a; intro a hk)) | (refine wx3 ?_; clear hk hS a; intro w b hS a hk) | (refine wx4 ?_; clear hk hS a; intro w hS a hk) | (refine wx5 ?_; clear hk hS a; intro w v hS a hk) | fail) | refine wx0 ?_ | (refine s_end hk ?_; clear hk a; intro a hk) | fail))
        rw [← hst] at hS
        exact ⟨hil, ⟨H1, ao1, cc1⟩, hk.sd, hS.sb, trivial⟩
      · rw [if_neg (fun h => hvd (hvoid.1 h))] at hst
        have hst2 := mrg_snoc (nrmL (kids.take i)) (.mk k2 tag2 key2 text2 cl2 al2 sl2 (e2, lv2, m2, d2, p2, q2) kids2)
        rw [← hst] at hst2
        generalize mrg (nrmL (kids.take i)) = M0 at *
        rcases List.eq_nil_or_concat M0 with rfl | ⟨M, u, hMu⟩
        · have hH10 : H1 = [] := by cases H1 with | nil => rfl | cons x xs => simp at hH1
          subst hH10
          have hst' : mrg (nrmL (kids.take (i + 1))) = [] ++ [.mk k2 tag2 key2 text2 cl2 al2 sl2 (e2, lv2, m2, d2, p2, q2) kids2] := by rw [hst2]; rfl
          have hl0 : ([] : List NdH).length = 0 := rfl
          (repeat' (first | (show wpListIn _ _ _ _ _ (_ :: _) _ _; first | (refine wx1 ?_; clear hk a; intro a hk) | (refine wx2 ?_ ?_ <;> (intro hp; clear hk a; intro a hk)) | (refine wx3 ?_; clear hk hS a; intro w b hS a hk) | (refine wx4 ?_; clear hk hS a; intro w hS a hk) | (refine wx5 ?_; clear hk hS a; intro w v hS a hk) | fail) | refine wx0 ?_ | (refine s_end hk ?_; clear hk a; intro a hk) | fail))
          all_goals (try (exfalso; exact hvd ⟨by assumption, by assumption⟩))
          all_goals (
            refine sg hk (g_bsT (xs := [((k2, tag2, key2, text2, ⟨x12, cl2.length, x32⟩, ⟨y12, al2.length, y32⟩, ⟨z12, sl2.length, z32⟩, (e2, lv2, m2, d2, p2, q2), ⟨u12, H2.length, u32⟩) : NdH)]) (m := 0) hk hS ?_ (hT := eT rfl) (hE := zT rfl) (hz := oT rfl)); clear hk hS a; intro w ve hS a hk
            (repeat' (first | (show wpListIn _ _ _ _ _ (_ :: _) _ _; first | (refine wx1 ?_; clear hk a; intro a hk) | (refine wx2 ?_ ?_ <;> (intro hp; clear hk a; intro a hk)) | (refine wx3 ?_; clear hk hS a; intro w b hS a hk) | (refine wx4 ?_; clear hk hS a; intro w hS a hk) | (refine wx5 ?_; clear hk hS a; intro w v hS a hk) | fail) | refine wx0 ?_ | (refine s_end hk ?_; clear hk a; intro a hk) | fail))
            rename Value => vf
            obtain ⟨aovf, cvf, hshp, _⟩ := (OwT.rd (hS.rd (A := OwT 33 _ vf) (by (repeat (first | exact At.here | apply At.there))))).shape; subst hshp
            generalize ((k2, tag2, key2, text2, ⟨x12, cl2.length, x32⟩, ⟨y12, al2.length, y32⟩, ⟨z12, sl2.length, z32⟩, (e2, lv2, m2, d2, p2, q2), ⟨u12, H2.length, u32⟩) : NdH) = hd1 at hS hk
            have hS1 := forR.snoc (ts := ([] : List Tree)) (H := ([] : List NdH)) (t := .mk k2 tag2 key2 text2 cl2 al2 sl2 (e2, lv2, m2, d2, p2, q2) kids2) (h := hd1) (L := [OwT 33 (([] : List NdH) ++ [hd1]) (.slice aovf (([] : List NdH) ++ [hd1]).length cvf), OwT 77 (snapF nmI sl) (.slice aov15 (snapF nmI sl).length cv15), OwT 76 (snapF nmS al) (.slice aov12 (snapF nmS al).length cv12), OwT 9 (clnC cl) (.slice aov9 (clnC cl).length cv9), pts b2 [.int .i64 0, .string ⟨#[]⟩, .string ⟨#[]⟩, .string ⟨#[]⟩, .slice none 0 0, .slice none 0 0, .slice none 0 0, .int .i64 0, .int .i64 0, .int .i64 0, .int .i64 0, .bool false, .bool false, .slice none 0 0] 33, pts b1 [.int .i64 k, .string tag, .string key, .string text, .slice aov9 (clnC cl).length cv9, .slice aov12 (snapF nmS al).length cv12, .slice aov15 (snapF nmI sl).length cv15, .int .i64 e, .int .i64 lv, .int .i64 m, .int .i64 d, .bool p, .bool q, .slice a4 H.length m4] 33]) (hS.sub (by (repeat (first | exact Sub.nil | exact Sub.refl | refine Sub.cons (by (repeat (first | exact At.here | apply At.there))) ?_))))
            rw [← hst'] at hS1
            exact ⟨hil, ⟨([] : List NdH) ++ [hd1], aovf, cvf⟩, hk.sd, hS1, trivial⟩)
        · rw [List.concat_eq_append] at hMu
          subst hMu
          have hne : H1 ≠ [] := by intro e0; subst e0; simp at hH1
          obtain ⟨Hd0, hdu, rfl⟩ : ∃ Hd0 h, H1 = Hd0 ++ [h] := ⟨H1.dropLast, H1.getLast hne, (List.dropLast_concat_getLast hne).symm⟩
          have hpos : 1 ≤ (Hd0 ++ [hdu]).length := by simp
          have hum : u ∈ M ++ [u] := by simp
          have htu := txtL_mem hum
          obtain ⟨ku, tagu, keyu, textu, clu, alu, slu, eu, lvu, mu, du, pu, qu, kidsu, xu1, xu2, yu1, yu2, zu1, zu2, uu1, uu2, Hu, rfl, rfl, _⟩ := hFM.init.2.split
          simp only [Tree.text] at htu
          have hxu : (Hd0 ++ [((ku, tagu, keyu, textu, ⟨xu1, clu.length, xu2⟩, ⟨yu1, alu.length, yu2⟩, ⟨zu1, slu.length, zu2⟩, (eu, lvu, mu, du, pu, qu), ⟨uu1, Hu.length, uu2⟩) : NdH)])[(((Hd0 ++ [((ku, tagu, keyu, textu, ⟨xu1, clu.length, xu2⟩, ⟨yu1, alu.length, yu2⟩, ⟨zu1, slu.length, zu2⟩, (eu, lvu, mu, du, pu, qu), ⟨uu1, Hu.length, uu2⟩) : NdH)]).length : Int) - 1).toNat]? = some ((ku, tagu, keyu, textu, ⟨xu1, clu.length, xu2⟩, ⟨yu1, alu.length, yu2⟩, ⟨zu1, slu.length, zu2⟩, (eu, lvu, mu, du, pu, qu), ⟨uu1, Hu.length, uu2⟩) : NdH) := by
            rw [List.length_append, List.length_singleton, show (((Hd0.length + 1 : Nat) : Int) - 1).toNat = Hd0.length by omega]
            simp
          rw [mrgS_app] at hst2
          simp only [Tree.kind, Tree.text, Tree.plus] at hst2
          by_cases hmg : k2 = 1 ∧ ku = 1
          · replace hst2 := hst2.trans (if_pos hmg)
            obtain ⟨hk1, hku⟩ := hmg
            have hte : ¬ text2 = ⟨#[]⟩ := fun h => hvd ⟨hk1, h⟩
            (repeat' (first | (show wpListIn _ _ _ _ _ (_ :: _) _ _; first | (refine wx1 ?_; clear hk a; intro a hk) | (refine wx2 ?_ ?_ <;> (intro hp; clear hk a; intro a hk)) | (refine wx3 ?_; clear hk hS a; intro w b hS a hk) | (refine wx4 ?_; clear hk hS a; intro w hS a hk) | (refine wx5 ?_; clear hk hS a; intro w v hS a hk) | fail) | refine wx0 ?_ | (refine s_end hk ?_; clear hk a; intro a hk) | fail))
            refine wp_drawn 10 mixed (by kernel_rfl) hk hS ?_; clear hk hS a
            (repeat' (first | (show ObxE _ _ _ _ _ _ _ _ _ (_ :: _) _ _ _; first | refine ox1 ?_ | (refine ox2 ?_ ?_ <;> intro hp) | fail) | fail))
            refine' obe_val (fun us a w hk hd hS => ?_) ?_; rotate_left; focus (have hk := Kn.vw hk (by repeat (first | exact VW.nil | apply VW.val rfl | apply VW.base rfl rfl | apply VW.res rfl | apply VW.upd rfl | apply VW.cpy rfl | apply VW.dep rfl | apply VW.fn rfl | apply VW.lnd rfl | apply VW.tak rfl)); exact g_cat hk (same _ _) (hl := by simp only [maxLen]; omega))
            (repeat' (first | (show ObxE _ _ _ _ _ _ _ _ _ (_ :: _) _ _ _; first | refine ox1 ?_ | (refine ox2 ?_ ?_ <;> intro hp) | fail) | fail))
            refine obe_nil ⟨rfl, ?_⟩; intro us a w hk hS
            have hgl : ∀ h, (Hd0 ++ [((ku, tagu, keyu, textu, ⟨xu1, clu.length, xu2⟩, ⟨yu1, alu.length, yu2⟩, ⟨zu1, slu.length, zu2⟩, (eu, lvu, mu, du, pu, qu), ⟨uu1, Hu.length, uu2⟩) : NdH)])[Hd0.length]'h = ((ku, tagu, keyu, textu, ⟨xu1, clu.length, xu2⟩, ⟨yu1, alu.length, yu2⟩, ⟨zu1, slu.length, zu2⟩, (eu, lvu, mu, du, pu, qu), ⟨uu1, Hu.length, uu2⟩) : NdH) := by intro h; rw [List.getElem_append_right (Nat.le_refl _)]; simp
            refine su hk (g_stF (xs := Hd0 ++ [((ku, tagu, keyu, textu, ⟨xu1, clu.length, xu2⟩, ⟨yu1, alu.length, yu2⟩, ⟨zu1, slu.length, zu2⟩, (eu, lvu, mu, du, pu, qu), ⟨uu1, Hu.length, uu2⟩) : NdH)]) (i := Hd0.length) (f := 3) (z := ((ku, tagu, keyu, textu ++ text2, ⟨xu1, clu.length, xu2⟩, ⟨yu1, alu.length, yu2⟩, ⟨zu1, slu.length, zu2⟩, (eu, lvu, mu, du, pu, qu), ⟨uu1, Hu.length, uu2⟩) : NdH)) hk hS ?_ (ho := by rw [List.length_append, List.length_singleton, show (((Hd0.length + 1 : Nat) : Int) - 1).toNat = Hd0.length by omega]) (hi := by simp) (hf := by decide) (hz := by rw [hgl]; rfl) (hsz := zT rfl))
            clear hk hS a; intro w hS a hk
            have hset : (Hd0 ++ [((ku, tagu, keyu, textu, ⟨xu1, clu.length, xu2⟩, ⟨yu1, alu.length, yu2⟩, ⟨zu1, slu.length, zu2⟩, (eu, lvu, mu, du, pu, qu), ⟨uu1, Hu.length, uu2⟩) : NdH)]).set Hd0.length ((ku, tagu, keyu, textu ++ text2, ⟨xu1, clu.length, xu2⟩, ⟨yu1, alu.length, yu2⟩, ⟨zu1, slu.length, zu2⟩, (eu, lvu, mu, du, pu, qu), ⟨uu1, Hu.length, uu2⟩) : NdH) = Hd0 ++ [((ku, tagu, keyu, textu ++ text2, ⟨xu1, clu.length, xu2⟩, ⟨yu1, alu.length, yu2⟩, ⟨zu1, slu.length, zu2⟩, (eu, lvu, mu, du, pu, qu), ⟨uu1, Hu.length, uu2⟩) : NdH)] := by simp
            rw [hset] at hS
            have hle : (Hd0 ++ [((ku, tagu, keyu, textu, ⟨xu1, clu.length, xu2⟩, ⟨yu1, alu.length, yu2⟩, ⟨zu1, slu.length, zu2⟩, (eu, lvu, mu, du, pu, qu), ⟨uu1, Hu.length, uu2⟩) : NdH)]).length = (Hd0 ++ [((ku, tagu, keyu, textu ++ text2, ⟨xu1, clu.length, xu2⟩, ⟨yu1, alu.length, yu2⟩, ⟨zu1, slu.length, zu2⟩, (eu, lvu, mu, du, pu, qu), ⟨uu1, Hu.length, uu2⟩) : NdH)]).length := by simp
            (repeat' (first | (show wpListIn _ _ _ _ _ (_ :: _) _ _; first | (refine wx1 ?_; clear hk a; intro a hk) | (refine wx2 ?_ ?_ <;> (intro hp; clear hk a; intro a hk)) | (refine wx3 ?_; clear hk hS a; intro w b hS a hk) | (refine wx4 ?_; clear hk hS a; intro w hS a hk) | (refine wx5 ?_; clear hk hS a; intro w v hS a hk) | fail) | refine wx0 ?_ | (refine s_end hk ?_; clear hk a; intro a hk) | fail))
            have hS1 := rdH.imp (R' := fun w => FoR w (mrg (nrmL (kids.take (i + 1)))) (Hd0 ++ [((ku, tagu, keyu, textu ++ text2, ⟨xu1, clu.length, xu2⟩, ⟨yu1, alu.length, yu2⟩, ⟨zu1, slu.length, zu2⟩, (eu, lvu, mu, du, pu, qu), ⟨uu1, Hu.length, uu2⟩) : NdH)])) (L := [OwT 33 (Hd0 ++ [((ku, tagu, keyu, textu ++ text2, ⟨xu1, clu.length, xu2⟩, ⟨yu1, alu.length, yu2⟩, ⟨zu1, slu.length, zu2⟩, (eu, lvu, mu, du, pu, qu), ⟨uu1, Hu.length, uu2⟩) : NdH)]) (.slice ao1 (Hd0 ++ [((ku, tagu, keyu, textu, ⟨xu1, clu.length, xu2⟩, ⟨yu1, alu.length, yu2⟩, ⟨zu1, slu.length, zu2⟩, (eu, lvu, mu, du, pu, qu), ⟨uu1, Hu.length, uu2⟩) : NdH)]).length cc1), OwT 77 (snapF nmI sl) (.slice aov15 (snapF nmI sl).length cv15), OwT 76 (snapF nmS al) (.slice aov12 (snapF nmS al).length cv12), OwT 9 (clnC cl) (.slice aov9 (clnC cl).length cv9), pts b2 [.int .i64 0, .string ⟨#[]⟩, .string ⟨#[]⟩, .string ⟨#[]⟩, .slice none 0 0, .slice none 0 0, .slice none 0 0, .int .i64 0, .int .i64 0, .int .i64 0, .int .i64 0, .bool false, .bool false, .slice none 0 0] 33, pts b1 [.int .i64 k, .string tag, .string key, .string text, .slice aov9 (clnC cl).length cv9, .slice aov12 (snapF nmS al).length cv12, .slice aov15 (snapF nmI sl).length cv15, .int .i64 e, .int .i64 lv, .int .i64 m, .int .i64 d, .bool p, .bool q, .slice a4 H.length m4] 33]) (hS.sub (by (repeat (first | exact Sub.nil | exact Sub.refl | refine Sub.cons (by (repeat (first | exact At.here | apply At.there))) ?_)))) (FoR.stays (M ++ [.mk ku tagu keyu textu clu alu slu (eu, lvu, mu, du, pu, qu) kidsu]) (Hd0 ++ [((ku, tagu, keyu, textu, ⟨xu1, clu.length, xu2⟩, ⟨yu1, alu.length, yu2⟩, ⟨zu1, slu.length, zu2⟩, (eu, lvu, mu, du, pu, qu), ⟨uu1, Hu.length, uu2⟩) : NdH)])) (fun g hg => by rw [hst2]; exact FoR.plus hg)
            rw [hle] at hS1
            rw [hle] at hk
            exact ⟨hil, ⟨Hd0 ++ [((ku, tagu, keyu, textu ++ text2, ⟨xu1, clu.length, xu2⟩, ⟨yu1, alu.length, yu2⟩, ⟨zu1, slu.length, zu2⟩, (eu, lvu, mu, du, pu, qu), ⟨uu1, Hu.length, uu2⟩) : NdH)], ao1, cc1⟩, hk.sd, hS1, trivial⟩
          · replace hst2 := hst2.trans (if_neg hmg)
            have hst' := hst2
            clear hst2
            by_cases hk1 : k2 = 1
            · have hkp : ¬ ku = 1 := fun h => hmg ⟨hk1, h⟩
              have hte : ¬ text2 = ⟨#[]⟩ := fun h => hvd ⟨hk1, h⟩
              (repeat' (first | (show wpListIn _ _ _ _ _ (_ :: _) _ _; first | (refine wx1 ?_; clear hk a; intro a hk) | (refine wx2 ?_ ?_ <;> (intro hp; clear hk a; intro a hk)) | (refine wx3 ?_; clear hk hS a; intro w b hS a hk) | (refine wx4 ?_; clear hk hS a; intro w hS a hk) | (refine wx5 ?_; clear hk hS a; intro w v hS a hk) | fail) | refine wx0 ?_ | (refine s_end hk ?_; clear hk a; intro a hk) | fail))
              refine sg hk (g_bsT (xs := [((k2, tag2, key2, text2, ⟨x12, cl2.length, x32⟩, ⟨y12, al2.length, y32⟩, ⟨z12, sl2.length, z32⟩, (e2, lv2, m2, d2, p2, q2), ⟨u12, H2.length, u32⟩) : NdH)]) (m := 0) hk hS ?_ (hT := eT rfl) (hE := zT rfl) (hz := oT rfl)); clear hk hS a; intro w ve hS a hk
              (repeat' (first | (show wpListIn _ _ _ _ _ (_ :: _) _ _; first | (refine wx1 ?_; clear hk a; intro a hk) | (refine wx2 ?_ ?_ <;> (intro hp; clear hk a; intro a hk)) | (refine wx3 ?_; clear hk hS a; intro w b hS a hk) | (refine wx4 ?_; clear hk hS a; intro w hS a hk) | (refine wx5 ?_; clear hk hS a; intro w v hS a hk) | fail) | refine wx0 ?_ | (refine s_end hk ?_; clear hk a; intro a hk) | fail))
              rename Value => vf
              obtain ⟨aovf, cvf, hshp, _⟩ := (OwT.rd (hS.rd (A := OwT 33 _ vf) (by (repeat (first | exact At.here | apply At.there))))).shape; subst hshp
              generalize ((k2, tag2, key2, text2, ⟨x12, cl2.length, x32⟩, ⟨y12, al2.length, y32⟩, ⟨z12, sl2.length, z32⟩, (e2, lv2, m2, d2, p2, q2), ⟨u12, H2.length, u32⟩) : NdH) = hd1 at hS hk
              have hS1 := forR.snoc (ts := (M ++ [.mk ku tagu keyu textu clu alu slu (eu, lvu, mu, du, pu, qu) kidsu])) (H := (Hd0 ++ [((ku, tagu, keyu, textu, ⟨xu1, clu.length, xu2⟩, ⟨yu1, alu.length, yu2⟩, ⟨zu1, slu.length, zu2⟩, (eu, lvu, mu, du, pu, qu), ⟨uu1, Hu.length, uu2⟩) : NdH)])) (t := .mk k2 tag2 key2 text2 cl2 al2 sl2 (e2, lv2, m2, d2, p2, q2) kids2) (h := hd1) (L := [OwT 33 ((Hd0 ++ [((ku, tagu, keyu, textu, ⟨xu1, clu.length, xu2⟩, ⟨yu1, alu.length, yu2⟩, ⟨zu1, slu.length, zu2⟩, (eu, lvu, mu, du, pu, qu), ⟨uu1, Hu.length, uu2⟩) : NdH)]) ++ [hd1]) (.slice aovf ((Hd0 ++ [((ku, tagu, keyu, textu, ⟨xu1, clu.length, xu2⟩, ⟨yu1, alu.length, yu2⟩, ⟨zu1, slu.length, zu2⟩, (eu, lvu, mu, du, pu, qu), ⟨uu1, Hu.length, uu2⟩) : NdH)]) ++ [hd1]).length cvf), OwT 77 (snapF nmI sl) (.slice aov15 (snapF nmI sl).length cv15), OwT 76 (snapF nmS al) (.slice aov12 (snapF nmS al).length cv12), OwT 9 (clnC cl) (.slice aov9 (clnC cl).length cv9), pts b2 [.int .i64 0, .string ⟨#[]⟩, .string ⟨#[]⟩, .string ⟨#[]⟩, .slice none 0 0, .slice none 0 0, .slice none 0 0, .int .i64 0, .int .i64 0, .int .i64 0, .int .i64 0, .bool false, .bool false, .slice none 0 0] 33, pts b1 [.int .i64 k, .string tag, .string key, .string text, .slice aov9 (clnC cl).length cv9, .slice aov12 (snapF nmS al).length cv12, .slice aov15 (snapF nmI sl).length cv15, .int .i64 e, .int .i64 lv, .int .i64 m, .int .i64 d, .bool p, .bool q, .slice a4 H.length m4] 33]) (hS.sub (by (repeat (first | exact Sub.nil | exact Sub.refl | refine Sub.cons (by (repeat (first | exact At.here | apply At.there))) ?_))))
              rw [← hst'] at hS1
              exact ⟨hil, ⟨(Hd0 ++ [((ku, tagu, keyu, textu, ⟨xu1, clu.length, xu2⟩, ⟨yu1, alu.length, yu2⟩, ⟨zu1, slu.length, zu2⟩, (eu, lvu, mu, du, pu, qu), ⟨uu1, Hu.length, uu2⟩) : NdH)]) ++ [hd1], aovf, cvf⟩, hk.sd, hS1, trivial⟩
            · (repeat' (first | (show wpListIn _ _ _ _ _ (_ :: _) _ _; first | (refine wx1 ?_; clear hk a; intro a hk) | (refine wx2 ?_ ?_ <;> (intro hp; clear hk a; intro a hk)) | (refine wx3 ?_; clear hk hS a; intro w b hS a hk) | (refine wx4 ?_; clear hk hS a; intro w hS a hk) | (refine wx5 ?_; clear hk hS a; intro w v hS a hk) | fail) | refine wx0 ?_ | (refine s_end hk ?_; clear hk a; intro a hk) | fail))
              refine sg hk (g_bsT (xs := [((k2, tag2, key2, text2, ⟨x12, cl2.length, x32⟩, ⟨y12, al2.length, y32⟩, ⟨z12, sl2.length, z32⟩, (e2, lv2, m2, d2, p2, q2), ⟨u12, H2.length, u32⟩) : NdH)]) (m := 0) hk hS ?_ (hT := eT rfl) (hE := zT rfl) (hz := oT rfl)); clear hk hS a; intro w ve hS a hk
              (repeat' (first | (show wpListIn _ _ _ _ _ (_ :: _) _ _; first | (refine wx1 ?_; clear hk a; intro a hk) | (refine wx2 ?_ ?_ <;> (intro hp; clear hk a; intro a hk)) | (refine wx3 ?_; clear hk hS a; intro w b hS a hk) | (refine wx4 ?_; clear hk hS a; intro w hS a hk) | (refine wx5 ?_; clear hk hS a; intro w v hS a hk) | fail) | refine wx0 ?_ | (refine s_end hk ?_; clear hk a; intro a hk) | fail))
              rename Value => vf
              obtain ⟨aovf, cvf, hshp, _⟩ := (OwT.rd (hS.rd (A := OwT 33 _ vf) (by (repeat (first | exact At.here | apply At.there))))).shape; subst hshp
              generalize ((k2, tag2, key2, text2, ⟨x12, cl2.length, x32⟩, ⟨y12, al2.length, y32⟩, ⟨z12, sl2.length, z32⟩, (e2, lv2, m2, d2, p2, q2), ⟨u12, H2.length, u32⟩) : NdH) = hd1 at hS hk
              have hS1 := forR.snoc (ts := (M ++ [.mk ku tagu keyu textu clu alu slu (eu, lvu, mu, du, pu, qu) kidsu])) (H := (Hd0 ++ [((ku, tagu, keyu, textu, ⟨xu1, clu.length, xu2⟩, ⟨yu1, alu.length, yu2⟩, ⟨zu1, slu.length, zu2⟩, (eu, lvu, mu, du, pu, qu), ⟨uu1, Hu.length, uu2⟩) : NdH)])) (t := .mk k2 tag2 key2 text2 cl2 al2 sl2 (e2, lv2, m2, d2, p2, q2) kids2) (h := hd1) (L := [OwT 33 ((Hd0 ++ [((ku, tagu, keyu, textu, ⟨xu1, clu.length, xu2⟩, ⟨yu1, alu.length, yu2⟩, ⟨zu1, slu.length, zu2⟩, (eu, lvu, mu, du, pu, qu), ⟨uu1, Hu.length, uu2⟩) : NdH)]) ++ [hd1]) (.slice aovf ((Hd0 ++ [((ku, tagu, keyu, textu, ⟨xu1, clu.length, xu2⟩, ⟨yu1, alu.length, yu2⟩, ⟨zu1, slu.length, zu2⟩, (eu, lvu, mu, du, pu, qu), ⟨uu1, Hu.length, uu2⟩) : NdH)]) ++ [hd1]).length cvf), OwT 77 (snapF nmI sl) (.slice aov15 (snapF nmI sl).length cv15), OwT 76 (snapF nmS al) (.slice aov12 (snapF nmS al).length cv12), OwT 9 (clnC cl) (.slice aov9 (clnC cl).length cv9), pts b2 [.int .i64 0, .string ⟨#[]⟩, .string ⟨#[]⟩, .string ⟨#[]⟩, .slice none 0 0, .slice none 0 0, .slice none 0 0, .int .i64 0, .int .i64 0, .int .i64 0, .int .i64 0, .bool false, .bool false, .slice none 0 0] 33, pts b1 [.int .i64 k, .string tag, .string key, .string text, .slice aov9 (clnC cl).length cv9, .slice aov12 (snapF nmS al).length cv12, .slice aov15 (snapF nmI sl).length cv15, .int .i64 e, .int .i64 lv, .int .i64 m, .int .i64 d, .bool p, .bool q, .slice a4 H.length m4] 33]) (hS.sub (by (repeat (first | exact Sub.nil | exact Sub.refl | refine Sub.cons (by (repeat (first | exact At.here | apply At.there))) ?_))))
              rw [← hst'] at hS1
              exact ⟨hil, ⟨(Hd0 ++ [((ku, tagu, keyu, textu, ⟨xu1, clu.length, xu2⟩, ⟨yu1, alu.length, yu2⟩, ⟨zu1, slu.length, zu2⟩, (eu, lvu, mu, du, pu, qu), ⟨uu1, Hu.length, uu2⟩) : NdH)]) ++ [hd1], aovf, cvf⟩, hk.sd, hS1, trivial⟩
    · have hii : i = kids.length := by omega
      subst hii
      rw [List.take_length] at hS hH1 hml
      have hnn := nrmL_len kids
      have hn' : nrm (.mk k tag key text cl al sl (e, lv, m, d, p, q) kids) = .mk k tag key text (clnC cl) (snapF nmS al) (snapF nmI sl) (e, lv, m, d, p, q) (mrg (nrmL kids)) := by rw [nrm]
      rw [hn']
      (repeat' (first | (show wpListIn _ _ _ _ _ (_ :: _) _ _; first | (refine wx1 ?_; clear hk a; intro a hk) | (refine wx2 ?_ ?_ <;> (intro hp; clear hk a; intro a hk)) | (refine wx3 ?_; clear hk hS a; intro w b hS a hk) | (refine wx4 ?_; clear hk hS a; intro w hS a hk) | (refine wx5 ?_; clear hk hS a; intro w v hS a hk) | fail) | refine wx0 ?_ | (refine s_end hk ?_; clear hk a; intro a hk) | fail))
      refine done1R hk rfl (.str hS (hT := aT rfl) (hs := zT rfl)) (h := ?_)
      exact treeH.of (h := (k, tag, key, text, ⟨aov9, (clnC cl).length, cv9⟩, ⟨aov12, (snapF nmS al).length, cv12⟩, ⟨aov15, (snapF nmI sl).length, cv15⟩, (e, lv, m, d, p, q), ⟨ao1, H1.length, cc1⟩)) (treeR.of (A1 := OwT 9 (clnC cl) (.slice aov9 (clnC cl).length cv9)) (A2 := OwT 76 (snapF nmS al) (.slice aov12 (snapF nmS al).length cv12)) (A3 := OwT 77 (snapF nmI sl) (.slice aov15 (snapF nmI sl).length cv15)) (A4 := OwT 33 H1 (.slice ao1 H1.length cc1)) (hS.sub (by (repeat (first | exact Sub.nil | exact Sub.refl | refine Sub.cons (by (repeat (first | exact At.here | apply At.there))) ?_)))))
end Go.Proofs.YtipdgobplfkipaaGreatDoor
namespace Go.Proofs.YtipdgobplfkipaaGreatDoor
open Go.RowKit
set_option maxRecDepth 100000
attribute [local irreducible] Go.Code.wpIn Go.wpListIn Go.Calls Gives Go.Exit.then Go.Exit.inBlock Done ObxE

set_option maxHeartbeats 4000000 in
theorem tree07_any (F : List FlH) (v : Value) (most : Nat) (hm1 : 1 ≤ most) (hm2 : most ≤ 1000) (w0 : World) (hv : SlT F v w0) (hR : ∀ h ∈ F, FlR w0 h) :
    Calls Tryz.prog 15 #[v, .int .i64 (most : Int)] w0 (Ret fun u w => ∃ t, Small t ∧ cnt t ≤ most ∧ St w0 [treeH t u] w) := by
  have hF63 : F.length ≤ maxLen := hv.len_le
  simp only [maxLen] at hF63
  refine enter Tryz.func15 rfl Tryz.ntmps15 rfl (fun a hk => ?_); have hS := St.refl w0
  by_cases hgt : most < F.length
  · have hl : (F.take most).length = most := by rw [List.length_take]; omega
    have hRR : ∀ h ∈ F.take most, FlR w0 h := fun h hh => hR h (List.mem_of_mem_take hh)
    (repeat' (first | (show wpListIn _ _ _ _ _ (_ :: _) _ _; first | (refine wx1 ?_; clear hk a; intro a hk) | (refine wx2 ?_ ?_ <;> (intro hp; clear hk a; intro a hk)) | (refine wx3 ?_; clear hk hS a; intro w b hS a hk) | (refine wx4 ?_; clear hk hS a; intro w hS a hk) | (refine wx5 ?_; clear hk hS a; intro w v hS a hk) | fail) | refine wx0 ?_ | (refine s_end hk ?_; clear hk a; intro a hk) | fail))
    refine sg hk (g_partT (j := most) hk ?_ (ht := eT rfl) (hs := (by first | exact St.rdT hS (by assumption) | exact OwT.rd (hS.rd (A := OwT _ _ _) (by (repeat (first | exact At.here | apply At.there)))) | assumption)) (hE := zT rfl) (hj := by omega)); clear hk a; intro vp hvp a hk
    have hv2 := hvp _ hv
    by_cases hF0 : F.take most = []
    · have h0 : (F.take most).length = 0 := by rw [hF0]; rfl
      (repeat' (first | (show wpListIn _ _ _ _ _ (_ :: _) _ _; first | (refine wx1 ?_; clear hk a; intro a hk) | (refine wx2 ?_ ?_ <;> (intro hp; clear hk a; intro a hk)) | (refine wx3 ?_; clear hk hS a; intro w b hS a hk) | (refine wx4 ?_; clear hk hS a; intro w hS a hk) | (refine wx5 ?_; clear hk hS a; intro w v hS a hk) | fail) | refine wx0 ?_ | (refine s_end hk ?_; clear hk a; intro a hk) | fail))
      refine done1R hk rfl (.str hS (hT := aT rfl) (hs := zT rfl)) (h := ⟨.mk 2 ⟨#[112]⟩ ⟨#[]⟩ ⟨#[]⟩ [] [] [] (0, 0, 0, 0, false, false) [], Small.mk ⟨by unfold in64; omega, by decide, by decide, by decide, by simp, by simp, by simp, by simp, by simp, by simp, by unfold in64; exact ⟨by decide, by decide⟩, by unfold in64; exact ⟨by decide, by decide⟩, by unfold in64; exact ⟨by decide, by decide⟩, by unfold in64; exact ⟨by decide, by decide⟩⟩ (by simp), by simp [cnt, cntL]; omega, ?_⟩)
      have hS1 := (((hS.nil.nilT 9 ByteArray).nilT 73 (ByteArray × ByteArray)).nilT 75 (ByteArray × Int)).nilT 42 NdH
      exact treeH.of (h := (2, ⟨#[112]⟩, ⟨#[]⟩, ⟨#[]⟩, ⟨none, 0, 0⟩, ⟨none, 0, 0⟩, ⟨none, 0, 0⟩, (0, 0, 0, 0, false, false), ⟨none, 0, 0⟩)) (treeR.of (A1 := OwT 9 ([] : List ByteArray) (.slice none 0 0)) (A2 := OwT 73 ([] : List (ByteArray × ByteArray)) (.slice none 0 0)) (A3 := OwT 75 ([] : List (ByteArray × Int)) (.slice none 0 0)) (A4 := OwT 42 ([] : List NdH) (.slice none 0 0)) (H := []) (kids := []) ((forR.nil hS1).sub (by (repeat (first | exact Sub.nil | exact Sub.refl | refine Sub.cons (by (repeat (first | exact At.here | apply At.there))) ?_)))))
    · have h1 : 0 < (F.take most).length := List.length_pos_iff.2 hF0
      obtain ⟨x, hx⟩ : ∃ x, (F.take most)[0]? = some x := ⟨_, List.getElem?_eq_getElem h1⟩
      obtain ⟨dp, k, tag, key, text, cl, al, sl, e, lv, m, d, p, q, a1, a2, a3, m1, m2, m3, rfl, c1, c2, c3, b1, b2, b3, b4, b5, b6, b7⟩ := hRR x (List.mem_of_getElem? hx)
      (repeat' (first | (show wpListIn _ _ _ _ _ (_ :: _) _ _; first | (refine wx1 ?_; clear hk a; intro a hk) | (refine wx2 ?_ ?_ <;> (intro hp; clear hk a; intro a hk)) | (refine wx3 ?_; clear hk hS a; intro w b hS a hk) | (refine wx4 ?_; clear hk hS a; intro w hS a hk) | (refine wx5 ?_; clear hk hS a; intro w v hS a hk) | fail) | refine wx0 ?_ | (refine s_end hk ?_; clear hk a; intro a hk) | fail))
      refine sg hk (g_callO hk (hf := by kernel_rfl) (hc := node07_any dp k tag key text cl al sl e lv m d p q a1 a2 a3 m1 m2 m3 _ (hS.rdT c1) (hS.rdT c2) (hS.rdT c3)) (h := ?_)); clear hk a; rintro vn w hS1 a hk; replace hS := hS.call hS1; clear hS1
      rw [List.cons_append, List.nil_append] at hS
      obtain ⟨hd1, rfl, hS1⟩ := St.tree hS .here
      clear hS
      have hS := hS1
      clear hS1
      obtain ⟨k0, tag0, key0, text0, cl0, al0, sl0, e0, lv0, m0, d0, p0, q0, kids0, A1, M1, A2, M2, A3, M3, A4, M4, H0, he, rfl, _⟩ := (hS.trR .here).split
      have hok := okN_node (tag := tag) (key := key) (text := text) (cl := cl) (al := al) (p := p) (q := q) b2 b3 b4 b5 b6 b7
      unfold nodeF at he hS
      injection he with q1 q2 q3 q4 q5 q6 q7 q8 q9
      rw [q1, q2, q3, q4, q5, q6, q7, q8, q9] at hS
      rw [q1, q2, q3, q4, q5, q6, q7, q8] at hok
      clear q1 q2 q3 q4 q5 q6 q7 q8 q9
      (repeat' (first | (show wpListIn _ _ _ _ _ (_ :: _) _ _; first | (refine wx1 ?_; clear hk a; intro a hk) | (refine wx2 ?_ ?_ <;> (intro hp; clear hk a; intro a hk)) | (refine wx3 ?_; clear hk hS a; intro w b hS a hk) | (refine wx4 ?_; clear hk hS a; intro w hS a hk) | (refine wx5 ?_; clear hk hS a; intro w v hS a hk) | fail) | refine wx0 ?_ | (refine s_end hk ?_; clear hk a; intro a hk) | fail))
      refine sg hk (g_callO hk (hf := by kernel_rfl) (hc := kids07_any (F.take most) vp (by omega) ((F.take most).length + 1) 1 dp _ (by omega) (by omega) (hS.rdT hv2) (fun h hh => (hRR h hh).frz hS.frz)) (h := ?_)); clear hk a; rintro vr w ⟨ts2, H2, at2, ak2, ck2, rfl, r1, r2, r3, r4, hS1⟩ a hk; replace hS := hS.call hS1; clear hS1
      rw [List.cons_append, List.cons_append, List.nil_append] at hS
      (repeat' (first | (show wpListIn _ _ _ _ _ (_ :: _) _ _; first | (refine wx1 ?_; clear hk a; intro a hk) | (refine wx2 ?_ ?_ <;> (intro hp; clear hk a; intro a hk)) | (refine wx3 ?_; clear hk hS a; intro w b hS a hk) | (refine wx4 ?_; clear hk hS a; intro w hS a hk) | (refine wx5 ?_; clear hk hS a; intro w v hS a hk) | fail) | refine wx0 ?_ | (refine s_end hk ?_; clear hk a; intro a hk) | fail))
      refine done1R hk rfl (.str hS (hT := aT rfl) (hs := zT rfl)) (h := ⟨.mk k0 tag0 key0 text0 cl0 al0 sl0 (e0, lv0, m0, d0, p0, q0) ts2, .mk hok r4, by simp only [cnt]; omega, ?_⟩)
      have hS1 := treeR.kids (k := k0) (tag := tag0) (key := key0) (text := text0) (cl := cl0) (at_ := al0) (st := sl0) (o := (e0, lv0, m0, d0, p0, q0)) (hc := ⟨A1, cl0.length, M1⟩) (ha := ⟨A2, al0.length, M2⟩) (hs := ⟨A3, sl0.length, M3⟩) (hk0 := ⟨A4, H0.length, M4⟩) (kids := ts2) (kids0 := kids0) (E := 42) (hk := ⟨ak2, H2.length, ck2⟩) (H := H2) (L := []) (hS.sub (by (repeat (first | exact Sub.nil | exact Sub.refl | refine Sub.cons (by (repeat (first | exact At.here | apply At.there))) ?_))))
      exact treeH.of (h := (k0, tag0, key0, text0, ⟨A1, cl0.length, M1⟩, ⟨A2, al0.length, M2⟩, ⟨A3, sl0.length, M3⟩, (e0, lv0, m0, d0, p0, q0), ⟨ak2, H2.length, ck2⟩)) hS1
  · have hRR : ∀ h ∈ F, FlR w0 h := hR
    by_cases hF0 : F = []
    · have h0 : (F).length = 0 := by rw [hF0]; rfl
      (repeat' (first | (show wpListIn _ _ _ _ _ (_ :: _) _ _; first | (refine wx1 ?_; clear hk a; intro a hk) | (refine wx2 ?_ ?_ <;> (intro hp; clear hk a; intro a hk)) | (refine wx3 ?_; clear hk hS a; intro w b hS a hk) | (refine wx4 ?_; clear hk hS a; intro w hS a hk) | (refine wx5 ?_; clear hk hS a; intro w v hS a hk) | fail) | refine wx0 ?_ | (refine s_end hk ?_; clear hk a; intro a hk) | fail))
      refine done1R hk rfl (.str hS (hT := aT rfl) (hs := zT rfl)) (h := ⟨.mk 2 ⟨#[112]⟩ ⟨#[]⟩ ⟨#[]⟩ [] [] [] (0, 0, 0, 0, false, false) [], Small.mk ⟨by unfold in64; omega, by decide, by decide, by decide, by simp, by simp, by simp, by simp, by simp, by simp, by unfold in64; exact ⟨by decide, by decide⟩, by unfold in64; exact ⟨by decide, by decide⟩, by unfold in64; exact ⟨by decide, by decide⟩, by unfold in64; exact ⟨by decide, by decide⟩⟩ (by simp), by simp [cnt, cntL]; omega, ?_⟩)
      have hS1 := (((hS.nil.nilT 9 ByteArray).nilT 73 (ByteArray × ByteArray)).nilT 75 (ByteArray × Int)).nilT 42 NdH
      exact treeH.of (h := (2, ⟨#[112]⟩, ⟨#[]⟩, ⟨#[]⟩, ⟨none, 0, 0⟩, ⟨none, 0, 0⟩, ⟨none, 0, 0⟩, (0, 0, 0, 0, false, false), ⟨none, 0, 0⟩)) (treeR.of (A1 := OwT 9 ([] : List ByteArray) (.slice none 0 0)) (A2 := OwT 73 ([] : List (ByteArray × ByteArray)) (.slice none 0 0)) (A3 := OwT 75 ([] : List (ByteArray × Int)) (.slice none 0 0)) (A4 := OwT 42 ([] : List NdH) (.slice none 0 0)) (H := []) (kids := []) ((forR.nil hS1).sub (by (repeat (first | exact Sub.nil | exact Sub.refl | refine Sub.cons (by (repeat (first | exact At.here | apply At.there))) ?_)))))
    · have h1 : 0 < (F).length := List.length_pos_iff.2 hF0
      obtain ⟨x, hx⟩ : ∃ x, (F)[0]? = some x := ⟨_, List.getElem?_eq_getElem h1⟩
      obtain ⟨dp, k, tag, key, text, cl, al, sl, e, lv, m, d, p, q, a1, a2, a3, m1, m2, m3, rfl, c1, c2, c3, b1, b2, b3, b4, b5, b6, b7⟩ := hRR x (List.mem_of_getElem? hx)
      (repeat' (first | (show wpListIn _ _ _ _ _ (_ :: _) _ _; first | (refine wx1 ?_; clear hk a; intro a hk) | (refine wx2 ?_ ?_ <;> (intro hp; clear hk a; intro a hk)) | (refine wx3 ?_; clear hk hS a; intro w b hS a hk) | (refine wx4 ?_; clear hk hS a; intro w hS a hk) | (refine wx5 ?_; clear hk hS a; intro w v hS a hk) | fail) | refine wx0 ?_ | (refine s_end hk ?_; clear hk a; intro a hk) | fail))
      refine sg hk (g_callO hk (hf := by kernel_rfl) (hc := node07_any dp k tag key text cl al sl e lv m d p q a1 a2 a3 m1 m2 m3 _ (hS.rdT c1) (hS.rdT c2) (hS.rdT c3)) (h := ?_)); clear hk a; rintro vn w hS1 a hk; replace hS := hS.call hS1; clear hS1
      rw [List.cons_append, List.nil_append] at hS
      obtain ⟨hd1, rfl, hS1⟩ := St.tree hS .here
      clear hS
      have hS := hS1
      clear hS1
      obtain ⟨k0, tag0, key0, text0, cl0, al0, sl0, e0, lv0, m0, d0, p0, q0, kids0, A1, M1, A2, M2, A3, M3, A4, M4, H0, he, rfl, _⟩ := (hS.trR .here).split
      have hok := okN_node (tag := tag) (key := key) (text := text) (cl := cl) (al := al) (p := p) (q := q) b2 b3 b4 b5 b6 b7
      unfold nodeF at he hS
      injection he with q1 q2 q3 q4 q5 q6 q7 q8 q9
      rw [q1, q2, q3, q4, q5, q6, q7, q8, q9] at hS
      rw [q1, q2, q3, q4, q5, q6, q7, q8] at hok
      clear q1 q2 q3 q4 q5 q6 q7 q8 q9
      (repeat' (first | (show wpListIn _ _ _ _ _ (_ :: _) _ _; first | (refine wx1 ?_; clear hk a; intro a hk) | (refine wx2 ?_ ?_ <;> (intro hp; clear hk a; intro a hk)) | (refine wx3 ?_; clear hk hS a; intro w b hS a hk) | (refine wx4 ?_; clear hk hS a; intro w hS a hk) | (refine wx5 ?_; clear hk hS a; intro w v hS a hk) | fail) | refine wx0 ?_ | (refine s_end hk ?_; clear hk a; intro a hk) | fail))
      refine sg hk (g_callO hk (hf := by kernel_rfl) (hc := kids07_any (F) v (by omega) ((F).length + 1) 1 dp _ (by omega) (by omega) (hS.rdT hv) (fun h hh => (hRR h hh).frz hS.frz)) (h := ?_)); clear hk a; rintro vr w ⟨ts2, H2, at2, ak2, ck2, rfl, r1, r2, r3, r4, hS1⟩ a hk; replace hS := hS.call hS1; clear hS1
      rw [List.cons_append, List.cons_append, List.nil_append] at hS
      (repeat' (first | (show wpListIn _ _ _ _ _ (_ :: _) _ _; first | (refine wx1 ?_; clear hk a; intro a hk) | (refine wx2 ?_ ?_ <;> (intro hp; clear hk a; intro a hk)) | (refine wx3 ?_; clear hk hS a; intro w b hS a hk) | (refine wx4 ?_; clear hk hS a; intro w hS a hk) | (refine wx5 ?_; clear hk hS a; intro w v hS a hk) | fail) | refine wx0 ?_ | (refine s_end hk ?_; clear hk a; intro a hk) | fail))
      refine done1R hk rfl (.str hS (hT := aT rfl) (hs := zT rfl)) (h := ⟨.mk k0 tag0 key0 text0 cl0 al0 sl0 (e0, lv0, m0, d0, p0, q0) ts2, .mk hok r4, by simp only [cnt]; omega, ?_⟩)
      have hS1 := treeR.kids (k := k0) (tag := tag0) (key := key0) (text := text0) (cl := cl0) (at_ := al0) (st := sl0) (o := (e0, lv0, m0, d0, p0, q0)) (hc := ⟨A1, cl0.length, M1⟩) (ha := ⟨A2, al0.length, M2⟩) (hs := ⟨A3, sl0.length, M3⟩) (hk0 := ⟨A4, H0.length, M4⟩) (kids := ts2) (kids0 := kids0) (E := 42) (hk := ⟨ak2, H2.length, ck2⟩) (H := H2) (L := []) (hS.sub (by (repeat (first | exact Sub.nil | exact Sub.refl | refine Sub.cons (by (repeat (first | exact At.here | apply At.there))) ?_))))
      exact treeH.of (h := (k0, tag0, key0, text0, ⟨A1, cl0.length, M1⟩, ⟨A2, al0.length, M2⟩, ⟨A3, sl0.length, M3⟩, (e0, lv0, m0, d0, p0, q0), ⟨ak2, H2.length, ck2⟩)) hS1
end Go.Proofs.YtipdgobplfkipaaGreatDoor
namespace Go.Proofs.YtipdgobplfkipaaGreatDoor
open Go.RowKit
set_option maxRecDepth 100000
attribute [local irreducible] Go.Code.wpIn Go.wpListIn Go.Calls Gives Go.Exit.then Go.Exit.inBlock Done ObxE

theorem rdg_attr {W : World} {D : Nat} {us : List Value} (h : Rdg Tryz.prog W (D + 2) 73 us) : ∃ x : ByteArray × ByteArray, Enc.f x = us := by
  have hl := rdg_len Tryz.underlying73 h (zT rfl)
  obtain ⟨a, ha, _⟩ := rdg_str (sT rfl) (rdg_fld Tryz.underlying73 h (i := 0) rfl (zT rfl))
  obtain ⟨b, hb, _⟩ := rdg_str (sT rfl) (rdg_fld Tryz.underlying73 h (i := 1) rfl (zT rfl))
  match us, hl with
  | [u0, u1], _ =>
    simp at ha hb
    subst ha hb
    exact ⟨(a, b), rfl⟩
theorem rdg_pair {W : World} {D : Nat} {us : List Value} (h : Rdg Tryz.prog W (D + 2) 75 us) : ∃ x : ByteArray × Int, Enc.f x = us ∧ in64 x.2 := by
  have hl := rdg_len Tryz.underlying75 h (zT rfl)
  obtain ⟨a, ha, _⟩ := rdg_str (sT rfl) (rdg_fld Tryz.underlying75 h (i := 0) rfl (zT rfl))
  obtain ⟨b, hb, hr⟩ := rdg_int (iT rfl) (rdg_fld Tryz.underlying75 h (i := 1) rfl (zT rfl))
  match us, hl with
  | [u0, u1], _ =>
    simp at ha hb
    subst ha hb
    exact ⟨(a, b), rfl, hr⟩
theorem rdg_opts {W : World} {D : Nat} {us : List Value} (h : Rdg Tryz.prog W (D + 2) 39 us) : ∃ x : Opt, Enc.f x = us ∧ in64 x.1 ∧ in64 x.2.1 ∧ in64 x.2.2.1 ∧ in64 x.2.2.2.1 := by
  have hl := rdg_len Tryz.underlying39 h (zT rfl)
  obtain ⟨a, ha, r1⟩ := rdg_int (iT rfl) (rdg_fld Tryz.underlying39 h (i := 0) rfl (zT rfl))
  obtain ⟨b, hb, r2⟩ := rdg_int (iT rfl) (rdg_fld Tryz.underlying39 h (i := 1) rfl (zT rfl))
  obtain ⟨c, hc, r3⟩ := rdg_int (iT rfl) (rdg_fld Tryz.underlying39 h (i := 2) rfl (zT rfl))
  obtain ⟨d, hd, r4⟩ := rdg_int (iT rfl) (rdg_fld Tryz.underlying39 h (i := 3) rfl (zT rfl))
  obtain ⟨e, he⟩ := rdg_bool Tryz.underlying4 (rdg_fld Tryz.underlying39 h (i := 4) rfl (zT rfl))
  obtain ⟨f, hf⟩ := rdg_bool Tryz.underlying4 (rdg_fld Tryz.underlying39 h (i := 5) rfl (zT rfl))
  match us, hl with
  | [u0, u1, u2, u3, u4, u5], _ =>
    simp at ha hb hc hd he hf
    subst ha hb hc hd he hf
    exact ⟨(a, b, c, d, e, f), rfl, r1, r2, r3, r4⟩

theorem rdg_flat {W : World} {D : Nat} {us : List Value} (h : Rdg Tryz.prog W (D + 4) 84 us) : ∃ x : FlH, Enc.f x = us ∧ FlR W x := by
  have hl := rdg_len Tryz.underlying84 h (zT rfl)
  obtain ⟨a, h0, r1⟩ := rdg_int (iT rfl) (rdg_fld Tryz.underlying84 h (i := 0) rfl (zT rfl))
  obtain ⟨b, h1, r2⟩ := rdg_int (iT rfl) (rdg_fld Tryz.underlying84 h (i := 1) rfl (zT rfl))
  obtain ⟨c, h2, _⟩ := rdg_str (sT rfl) (rdg_fld Tryz.underlying84 h (i := 2) rfl (zT rfl))
  obtain ⟨d, h3, _⟩ := rdg_str (sT rfl) (rdg_fld Tryz.underlying84 h (i := 3) rfl (zT rfl))
  obtain ⟨e, h4, _⟩ := rdg_str (sT rfl) (rdg_fld Tryz.underlying84 h (i := 4) rfl (zT rfl))
  obtain ⟨v5, cl, h5, g5, _⟩ := SlT.of_rdg (α := ByteArray) (fun _ => True) (rdg_fld Tryz.underlying84 h (i := 5) rfl (zT rfl)) (eT rfl) (zT rfl) (fun us _ h => by obtain ⟨s, hs, _⟩ := rdg_str (sT rfl) h; exact ⟨s, hs.symm, trivial⟩)
  obtain ⟨v6, al, h6, g6, _⟩ := SlT.of_rdg (α := ByteArray × ByteArray) (fun _ => True) (rdg_fld Tryz.underlying84 h (i := 6) rfl (zT rfl)) (eT rfl) (zT rfl) (fun us _ h => by obtain ⟨s, hs⟩ := rdg_attr h; exact ⟨s, hs, trivial⟩)
  obtain ⟨v7, sl, h7, g7, g8⟩ := SlT.of_rdg (α := ByteArray × Int) (fun x => in64 x.2) (rdg_fld Tryz.underlying84 h (i := 7) rfl (zT rfl)) (eT rfl) (zT rfl) (fun us _ h => by obtain ⟨s, hs, h2⟩ := rdg_pair h; exact ⟨s, hs, h2⟩)
  obtain ⟨⟨q0, q1, q2, q3, q4, q5⟩, h8, s1, s2, s3, s4⟩ := rdg_opts (rdg_fld Tryz.underlying84 h (i := 8) rfl (zT rfl))
  match us, hl with
  | [u0, u1, u2, u3, u4, u5, u6, u7, u8, u9, u10, u11, u12, u13], _ =>
    simp at h0 h1 h2 h3 h4 h5 h6 h7
    subst h0 h1 h2 h3 h4 h5 h6 h7
    obtain ⟨a5, c5, rfl, _⟩ := g5.shape
    obtain ⟨a6, c6, rfl, _⟩ := g6.shape
    obtain ⟨a7, c7, rfl, _⟩ := g7.shape
    have h8' : ([.int .i64 q0, .int .i64 q1, .int .i64 q2, .int .i64 q3, .bool q4, .bool q5] : List Value) = [u8, u9, u10, u11, u12, u13] := h8
    simp only [List.cons.injEq, and_true] at h8'
    obtain ⟨rfl, rfl, rfl, rfl, rfl, rfl⟩ := h8'
    exact ⟨(a, b, c, d, e, ⟨a5, cl.length, c5⟩, ⟨a6, al.length, c6⟩, ⟨a7, sl.length, c7⟩, (q0, q1, q2, q3, q4, q5)), rfl, a, b, c, d, e, cl, al, sl, q0, q1, q2, q3, q4, q5, a5, a6, a7, c5, c6, c7, rfl, g5, g6, g7, r1, r2, s1, s2, s3, s4, g8⟩

theorem arg_flats {W : World} {v : Value} (h : Arg Tryz.prog W 55 v) : ∃ F : List FlH, SlT F v W ∧ ∀ x ∈ F, FlR W x := by
  obtain ⟨u, xs, h1, h2, h3⟩ := SlT.of_rdg (α := FlH) (FlR W) (D := 7) h.1 (eT rfl) (zT rfl) (fun us _ h => rdg_flat (D := 3) h)
  rw [h.2.2 (aT rfl)] at h1
  simp at h1
  subst h1
  exact ⟨xs, h2, h3⟩
end Go.Proofs.YtipdgobplfkipaaGreatDoor
namespace Go.Proofs.YtipdgobplfkipaaGreatDoor
open Go.RowKit
set_option maxRecDepth 100000
attribute [local irreducible] Go.Code.wpIn Go.wpListIn Go.Calls Gives Go.Exit.then Go.Exit.inBlock Done ObxE

set_option maxHeartbeats 8000000 in
theorem noteprints_any (F : List FlH) (v : Value) (w0 : World) (hv : SlT F v w0) (hR : ∀ h ∈ F, FlR w0 h) (ht : TabW w0) :
    Calls Tryz.prog 5 #[v] w0 (Ret fun v w => v = .bool true ∧ St w0 [] w) := by
  refine enter Tryz.func5 rfl Tryz.ntmps5 rfl (fun a hk => ?_); have hS := St.refl w0
  (repeat' (first | (show wpListIn _ _ _ _ _ (_ :: _) _ _; first | (refine wx1 ?_; clear hk a; intro a hk) | (refine wx2 ?_ ?_ <;> (intro hp; clear hk a; intro a hk)) | (refine wx3 ?_; clear hk hS a; intro w b hS a hk) | (refine wx4 ?_; clear hk hS a; intro w hS a hk) | (refine wx5 ?_; clear hk hS a; intro w v hS a hk) | fail) | refine wx0 ?_ | (refine s_end hk ?_; clear hk a; intro a hk) | fail))
  refine sg hk (g_callO hk (hf := by kernel_rfl) (hc := awake_any _ (ht.mono hS.below)) (h := ?_)); clear hk a; rintro _ w ⟨rfl, hS1⟩ a hk; replace hS := hS.call0 hS1; clear hS1
  (repeat' (first | (show wpListIn _ _ _ _ _ (_ :: _) _ _; first | (refine wx1 ?_; clear hk a; intro a hk) | (refine wx2 ?_ ?_ <;> (intro hp; clear hk a; intro a hk)) | (refine wx3 ?_; clear hk hS a; intro w b hS a hk) | (refine wx4 ?_; clear hk hS a; intro w hS a hk) | (refine wx5 ?_; clear hk hS a; intro w v hS a hk) | fail) | refine wx0 ?_ | (refine s_end hk ?_; clear hk a; intro a hk) | fail))
  refine sg hk (g_callO hk (hf := by kernel_rfl) (hc := tree07_any F v 25 (by omega) (by omega) _ (hS.rdT hv) (fun h hh => (hR h hh).frz hS.frz)) (h := ?_)); clear hk a; rintro vr w ⟨t, hsm, hcnt, hS1⟩ a hk; replace hS := hS.call hS1; clear hS1
  rw [List.cons_append, List.nil_append] at hS
  have hfit := hsm.fit (by omega)
  have hfits := hfit.fits
  obtain ⟨hsz, hpo, hsn⟩ := shown_ok hsm hcnt
  obtain ⟨⟨k1, tag1, key1, text1, ⟨x11, x21, x31⟩, ⟨y11, y21, y31⟩, ⟨z11, z21, z31⟩, ⟨e1, lv1, m1, d1, p1, q1⟩, ⟨u11, u21, u31⟩⟩, rfl, hS1⟩ := St.tree hS .here
  clear hS
  have hS := hS1
  clear hS1
  (repeat' (first | (show wpListIn _ _ _ _ _ (_ :: _) _ _; first | (refine wx1 ?_; clear hk a; intro a hk) | (refine wx2 ?_ ?_ <;> (intro hp; clear hk a; intro a hk)) | (refine wx3 ?_; clear hk hS a; intro w b hS a hk) | (refine wx4 ?_; clear hk hS a; intro w hS a hk) | (refine wx5 ?_; clear hk hS a; intro w v hS a hk) | fail) | refine wx0 ?_ | (refine s_end hk ?_; clear hk a; intro a hk) | fail))
  refine sg hk (g_callO hk (hf := by kernel_rfl) (hc := rnormal_any 70 (by omega) _ t (k1, tag1, key1, text1, ⟨x11, x21, x31⟩, ⟨y11, y21, y31⟩, ⟨z11, z21, z31⟩, (e1, lv1, m1, d1, p1, q1), ⟨u11, u21, u31⟩) _ (Nat.lt_succ_self _) hfit (hS.trR (by (repeat (first | exact At.here | apply At.there))))) (h := ?_)); clear hk a; rintro vo w hS1 a hk; replace hS := hS.call hS1; clear hS1
  rw [List.cons_append, List.nil_append] at hS
  obtain ⟨⟨k2, tag2, key2, text2, ⟨x12, x22, x32⟩, ⟨y12, y22, y32⟩, ⟨z12, z22, z32⟩, ⟨e2, lv2, m2, d2, p2, q2⟩, ⟨u12, u22, u32⟩⟩, rfl, hS1⟩ := St.tree hS .here
  clear hS
  have hS := hS1
  clear hS1
  (repeat' (first | (show wpListIn _ _ _ _ _ (_ :: _) _ _; first | (refine wx1 ?_; clear hk a; intro a hk) | (refine wx2 ?_ ?_ <;> (intro hp; clear hk a; intro a hk)) | (refine wx3 ?_; clear hk hS a; intro w b hS a hk) | (refine wx4 ?_; clear hk hS a; intro w hS a hk) | (refine wx5 ?_; clear hk hS a; intro w v hS a hk) | fail) | refine wx0 ?_ | (refine s_end hk ?_; clear hk a; intro a hk) | fail))
  refine wp_drawn 5 mixed (by kernel_rfl) hk hS ?_; clear hk hS a
  (repeat' (first | (show ObxE _ _ _ _ _ _ _ _ _ (_ :: _) _ _ _; first | refine ox1 ?_ | (refine ox2 ?_ ?_ <;> intro hp) | fail) | fail))
  refine' obe_res (fun us a w hk hd hS => ?_) ?_; rotate_left; focus (have hk := Kn.vw hk (by repeat (first | exact VW.nil | apply VW.val rfl | apply VW.base rfl rfl | apply VW.res rfl | apply VW.upd rfl | apply VW.cpy rfl | apply VW.dep rfl | apply VW.fn rfl | apply VW.lnd rfl | apply VW.tak rfl)); exact g_callO hk (hf := by kernel_rfl) (hc := own07_any _ t (k1, tag1, key1, text1, ⟨x11, x21, x31⟩, ⟨y11, y21, y31⟩, ⟨z11, z21, z31⟩, (e1, lv1, m1, d1, p1, q1), ⟨u11, u21, u31⟩) _ (Nat.lt_succ_self _) hfits (hS.trR (by (repeat (first | exact At.here | apply At.there))))) (h := fun _ _ h => h))
  refine' obe_res (V := treeH (nrm t)) (fun us a w hk hd hS => ?_) ?_
  · have hk := Kn.vw hk (by repeat (first | exact VW.nil | apply VW.val rfl | apply VW.base rfl rfl | apply VW.res rfl | apply VW.upd rfl | apply VW.cpy rfl | apply VW.dep rfl | apply VW.fn rfl | apply VW.lnd rfl | apply VW.tak rfl))
    obtain ⟨h, he, hr⟩ := treeH.rd (hd.1 : (treeH t (us 1)).rd w)
    simp only [Nat.zero_add, Nat.reduceAdd] at hk
    rw [he] at hk
    exact g_callO hk (hf := by kernel_rfl) (hc := normal_any 70 (by omega) _ t h _ (Nat.lt_succ_self _) hfit hr) (h := fun _ _ h => h)
  refine' obe_val (c := .string (prnT (snapT (nrm t)))) (fun us a w hk hd hS => ?_) ?_
  · have hk := Kn.vw hk (by repeat (first | exact VW.nil | apply VW.val rfl | apply VW.base rfl rfl | apply VW.res rfl | apply VW.upd rfl | apply VW.cpy rfl | apply VW.dep rfl | apply VW.fn rfl | apply VW.lnd rfl | apply VW.tak rfl))
    obtain ⟨h, he, hr⟩ := treeH.rd (hd.1 : (treeH (nrm t) (us 2)).rd w)
    simp only [Nat.zero_add, Nat.reduceAdd] at hk
    rw [he] at hk
    exact g_callO hk (hf := by kernel_rfl) (hc := print_any _ (nrm t) h _ (Nat.lt_succ_self _) hpo hsz hr (ht.mono hS.below)) (h := fun _ _ h => h)
  (repeat' (first | (show ObxE _ _ _ _ _ _ _ _ _ (_ :: _) _ _ _; first | refine ox1 ?_ | (refine ox2 ?_ ?_ <;> intro hp) | fail) | fail))
  refine obe_nil ⟨rfl, ?_⟩; intro us a w hk hS
  (repeat' (first | (show wpListIn _ _ _ _ _ (_ :: _) _ _; first | (refine wx1 ?_; clear hk a; intro a hk) | (refine wx2 ?_ ?_ <;> (intro hp; clear hk a; intro a hk)) | (refine wx3 ?_; clear hk hS a; intro w b hS a hk) | (refine wx4 ?_; clear hk hS a; intro w hS a hk) | (refine wx5 ?_; clear hk hS a; intro w v hS a hk) | fail) | refine wx0 ?_ | (refine s_end hk ?_; clear hk a; intro a hk) | fail))
  refine sg hk (g_callO hk (hf := by kernel_rfl) (hc := rprint_any _ (nrm t) (k2, tag2, key2, text2, ⟨x12, x22, x32⟩, ⟨y12, y22, y32⟩, ⟨z12, z22, z32⟩, (e2, lv2, m2, d2, p2, q2), ⟨u12, u22, u32⟩) _ (Nat.lt_succ_self _) hpo (by rw [← hsn]; exact hsz) (hS.trR (by (repeat (first | exact At.here | apply At.there)))) (ht.mono hS.below)) (h := ?_)); clear hk a; rintro _ w ⟨rfl, hS1⟩ a hk; replace hS := hS.call0 hS1; clear hS1
  rw [hsn] at hk
  (repeat' (first | (show wpListIn _ _ _ _ _ (_ :: _) _ _; first | (refine wx1 ?_; clear hk a; intro a hk) | (refine wx2 ?_ ?_ <;> (intro hp; clear hk a; intro a hk)) | (refine wx3 ?_; clear hk hS a; intro w b hS a hk) | (refine wx4 ?_; clear hk hS a; intro w hS a hk) | (refine wx5 ?_; clear hk hS a; intro w v hS a hk) | fail) | refine wx0 ?_ | (refine s_end hk ?_; clear hk a; intro a hk) | fail))
  exact done1 hk (h := ⟨rfl, hS.nil⟩)
theorem laid_NotationPrints {W : World} (hL : laidMetH Tryz.prog Rows.notationPrintsRow.laid W) : TabW W := by
  rw [MakeChecks.laidMetH_plain _ _ _ (by kernel_rfl)] at hL
  have h2 := laid_tail (laid_tail hL)
  exact Lib.tabIs_of_head (g := 1) (t := 173) (by kernel_rfl) (by kernel_rfl) Tryz.underlying173 Tryz.underlying161 (by kernel_rfl) (by kernel_rfl) h2
theorem walk_NotationPrints (W : World) (vs : List Value) (hL : laidMetH Tryz.prog Rows.notationPrintsRow.laid W) (h : Args Tryz.prog W [55] vs) : Calls Tryz.prog 5 vs.toArray W (Ret fun v w => v = .bool true ∧ St W [] w) := by
  obtain ⟨v, rfl, ha⟩ := args1 h
  obtain ⟨F, hv, hR⟩ := arg_flats ha
  exact noteprints_any F v W hv hR (laid_NotationPrints hL)
end Go.Proofs.YtipdgobplfkipaaGreatDoor
