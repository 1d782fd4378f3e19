/- Layer 7: views as they are shown, by the program. Layer 9: trees that are the same: the program. -/
import Derived.Test.YtgklceoodpocaaaGreatDoorQ11
import Derived.Test.YtgklceoodpocaaaGreatDoorQ19
import Derived.Test.YtgklceoodpocaaaGreatDoorQ08
set_option linter.all false
namespace Go.Proofs.YtgklceoodpocaaaGreatDoor
open Go.RowKit
set_option maxRecDepth 100000
attribute [local irreducible] Go.Code.wpIn Go.wpListIn Go.Calls Gives Go.Exit.then Go.Exit.inBlock Done ObxE
set_option maxHeartbeats 8000000 in
theorem normal_any (X : Nat) (hX : X ≤ 1000000) : ∀ (n : Nat) (t : Tree) (h : NdH) (w0 : World), SizeOf.sizeOf t < n → Fit X t → TrR w0 t h → Calls Tryz.prog 39 #[ndV h] w0 (Ret fun v w => St w0 [treeH (nrm t) v] w)
 | 0, _, _, _, hn, _, _ => by omega
 | n + 1, t, h, w0, hn, hf, hr => by
  have ih := normal_any X hX n
  obtain ⟨k, tag, key, text, cl, al, sl, e, lv, m, d, p, q, kids, a1, m1, a2, m2, a3, m3, a4, m4, H, rfl, rfl, c1, c2, c3, c4, hF⟩ := hr.split
  obtain ⟨l1, l2, l3, l4, l5, l6⟩ := hf
  have hHk : H.length = kids.length := hF.1
  have hxx : X * kids.length ≤ 1000000 * 1000 := Nat.mul_le_mul hX l4
  have htxK := nrmL_txt kids l6
  show Calls Tryz.prog 39 #[.agg #[.int .i64 k, .string tag, .string key, .string text, .slice a1 cl.length m1, .slice a2 al.length m2, .slice a3 sl.length m3, .int .i64 e, .int .i64 lv, .int .i64 m, .int .i64 d, .bool p, .bool q, .slice a4 H.length m4]] w0 _
  refine enter Tryz.func39 rfl Tryz.ntmps39 rfl (fun a hk => ?_);have hS := St.refl w0
  (repeat' (first|((first|refine wx1 ?_|refine wx2 ?_ ?_<;>intro hp|refine s_end hk ?_)<;>(clear hk a;intro a hk))|((first|refine wx3 ?_;intro w b|refine wx4 ?_;intro w|refine wx5 ?_;intro w v);clear hk hS a;intro hS a hk)|refine wx0 ?_|fail))
  rename_i b1
  rename Nat => b2
  refine wp_drawn 10 mixed (by kernel_rfl) hk hS ?_;clear hk hS a
  (repeat' (first|(show ObxE _ _ _ _ _ _ _ _ _ (_::_) _ _ _;first|refine ox1 ?_|refine ox2 ?_ ?_<;>intro hp)|fail))
  refine' obe_res (fun us a w hk hd hS => ?_) ?_;rotate_left;focus (have hk := Kn.vw hk vwx;exact g_callO hk (hf := by kernel_rfl) (hc := clean_any cl _ _ (hS.rdT c1) (by omega)) (h := fun _ _ h => h))
  (repeat' (first|(show ObxE _ _ _ _ _ _ _ _ _ (_::_) _ _ _;first|refine ox1 ?_|refine ox2 ?_ ?_<;>intro hp)|fail))
  refine' obe_res (fun us a w hk hd hS => ?_) ?_;rotate_left;focus (have hk := Kn.vw hk vwx;exact g_callO hk (hf := by kernel_rfl) (hc := ofS_any al _ _ (hS.rdT c2) (by omega)) (h := fun _ _ h => h))
  (repeat' (first|(show ObxE _ _ _ _ _ _ _ _ _ (_::_) _ _ _;first|refine ox1 ?_|refine ox2 ?_ ?_<;>intro hp)|fail))
  refine' obe_res (fun us a w hk hd hS => ?_) ?_;rotate_left;focus (have hk := Kn.vw hk vwx;exact g_callO hk (hf := by kernel_rfl) (hc := ofI_any sl _ _ (hS.rdT c3) (by omega)) (h := fun _ _ h => h))
  (repeat' (first|(show ObxE _ _ _ _ _ _ _ _ _ (_::_) _ _ _;first|refine ox1 ?_|refine ox2 ?_ ?_<;>intro hp)|fail))
  refine obe_nil ⟨rfl, ?_⟩;intro us a w hk hS
  simp only [resE, List.cons_append, List.nil_append, Nat.zero_add, Nat.reduceAdd] at hS
  replace hk := Kn.kp [1, 2, 9, 12, 15, 16] hk
  simp only [HV.of, Nat.zero_add, Nat.reduceAdd] at hk
  generalize us 2 = v9 at hS hk
  generalize us 5 = v12 at hS hk
  generalize us 8 = v15 at hS hk
  obtain ⟨aov9, cv9, hshp, _⟩ := (OwT.rd (hS.rd (A := OwT 9 _ v9) atx)).shape;subst hshp
  obtain ⟨aov12, cv12, hshp, _⟩ := (OwT.rd (hS.rd (A := OwT 98 _ v12) atx)).shape;subst hshp
  obtain ⟨aov15, cv15, hshp, _⟩ := (OwT.rd (hS.rd (A := OwT 100 _ v15) atx)).shape;subst hshp
  have c4' := hS.rdT c4
  (repeat' (first|((first|refine wx1 ?_|refine wx2 ?_ ?_<;>intro hp|refine s_end hk ?_)<;>(clear hk a;intro a hk))|((first|refine wx3 ?_;intro w b|refine wx4 ?_;intro w|refine wx5 ?_;intro w v);clear hk hS a;intro hS a hk)|refine wx0 ?_|fail))
  replace hS := forR.nil (hS.nilT 61 NdH)
  replace hk := Kn.kp [1, 2, 3, 20, 21, 22] hk
  refine wp_for H.length (fun i v => [(3, .slice v.a v.H.length v.c), (22, .int .i64 (i : Int))]) (fun i v => [forR (mrg (nrmL (kids.take i))) v.H, OwT 61 v.H (.slice v.a v.H.length v.c), OwT 100 (snapF nmI sl) (.slice aov15 (snapF nmI sl).length cv15), OwT 98 (snapF nmS al) (.slice aov12 (snapF nmS al).length cv12), OwT 9 (clnC cl) (.slice aov9 (clnC cl).length cv9), pts b2 [.int .i64 0, .string ⟨#[]⟩, .string ⟨#[]⟩, .string ⟨#[]⟩, .slice none 0 0, .slice none 0 0, .slice none 0 0, .int .i64 0, .int .i64 0, .int .i64 0, .int .i64 0, .bool false, .bool false, .slice none 0 0] 61, pts b1 [.int .i64 k, .string tag, .string key, .string text, .slice aov9 (clnC cl).length cv9, .slice aov12 (snapF nmS al).length cv12, .slice aov15 (snapF nmI sl).length cv15, .int .i64 e, .int .i64 lv, .int .i64 m, .int .i64 d, .bool p, .bool q, .slice a4 H.length m4] 61]) (fun _ _ => True) (⟨[], none, 0⟩ : N2) hk skx hS.sb trivial ?_
  clear hk hS a c4'
  rintro i ⟨H1, ao1, cc1⟩ a w hi hk hS -
  have hFM := hS.foR .here
  have hnl := nrmL_len (kids.take i)
  have hml := mrg_len (nrmL (kids.take i))
  rw [List.length_take] at hnl
  simp only at hS hk hFM
  have hH1 : H1.length = (mrg (nrmL (kids.take i))).length := hFM.1
  have c4' := hS.rdT c4
  by_cases hil : i < H.length
  ·obtain ⟨tk, htk⟩ : ∃ t, kids[i]? = some t := ⟨_, List.getElem?_eq_getElem (by omega)⟩
   obtain ⟨hd0, hx⟩ : ∃ x, H[i]? = some x := ⟨_, List.getElem?_eq_getElem hil⟩
   have hTr := hF.2 i tk hd0 htk hx
   have hfk := l6 tk (List.mem_of_getElem? htk)
   have hlt : SizeOf.sizeOf tk < n := by have := kid_lt (k := k) (tag := tag) (key := key) (text := text) (cl := cl) (at_ := al) (st := sl) (o := (e, lv, m, d, p, q)) (List.mem_of_getElem? htk);omega
   have hst := nrmL_snoc (kids.take i) tk
   rw [← take_snoc htk] at hst
   have htT : txtL (nrmL (kids.take i)) ≤ X * 1000 := by
    have h1 := nrmL_txt (kids.take i) (fun t ht => l6 t (List.mem_of_mem_take ht))
    have h2 : X * (kids.take i).length ≤ X * 1000 := Nat.mul_le_mul_left X (by rw [List.length_take];omega)
    omega
   have htm := mrg_txt (nrmL (kids.take i))
   have htk5 := hfk.text
   have hnk := nrm_kind tk
   have hnt := nrm_text tk
   obtain ⟨k', tag', key', text', cl', al', sl', e', lv', m', d', p', q', kids', x1, x2, y1, y2, z1, z2, u1, u2, H', rfl, rfl, _⟩ := hTr.split
   (repeat' (first|((first|refine wx1 ?_|refine wx2 ?_ ?_<;>intro hp|refine s_end hk ?_)<;>(clear hk a;intro a hk))|((first|refine wx3 ?_;intro w b|refine wx4 ?_;intro w|refine wx5 ?_;intro w v);clear hk hS a;intro hS a hk)|refine wx0 ?_|fail))
   refine sg hk (g_callO hk (hf := by kernel_rfl) (hc := ih _ _ _ hlt hfk (hS.rdTr hTr)) (h := ?_));clear hk a;rintro vn w hS1 a hk;replace hS := hS.call hS1;clear hS1
   rw [List.cons_append, List.nil_append] at hS
   obtain ⟨hd1, rfl, hS1⟩ := St.tree hS .here
   clear hS
   have hS := hS1
   clear hS1
   obtain ⟨k2, tag2, key2, text2, cl2, al2, sl2, e2, lv2, m2, d2, p2, q2, kids2, x12, x32, y12, y32, z12, z32, u12, u32, H2, hn2, rfl, _⟩ := (hS.trR .here).split
   rw [hn2] at hnk hnt
   simp only [Tree.kind, Tree.text] at hnk hnt htk5
   have htk6 : text2.size ≤ X := by rw [hnt];exact htk5
   have hvoid : Tree.void (.mk k' tag' key' text' cl' al' sl' (e', lv', m', d', p', q') kids') ↔ k2 = 1 ∧ text2 = ⟨#[]⟩ := by rw [hnk, hnt];exact Iff.rfl
   rw [hn2] at hS hst
   by_cases hvd : k2 = 1 ∧ text2 = ⟨#[]⟩
   ·rw [if_pos (hvoid.2 hvd)] at hst
    obtain ⟨rfl, rfl⟩ := hvd
    (repeat' (first|((first|refine wx1 ?_|refine wx2 ?_ ?_<;>intro hp|refine s_end hk ?_)<;>(clear hk a;intro a hk))|((first|refine wx3 ?_;intro w b|refine wx4 ?_;intro w|refine wx5 ?_;intro w v);clear hk hS a;intro hS a hk)|refine wx0 ?_|fail))
    rw [← hst] at hS
    exact ⟨hil, ⟨H1, ao1, cc1⟩, hk.sd, hS.sb, trivial⟩
   ·rw [if_neg (fun h => hvd (hvoid.1 h))] at hst
    have hst2 := mrg_snoc (nrmL (kids.take i)) (.mk k2 tag2 key2 text2 cl2 al2 sl2 (e2, lv2, m2, d2, p2, q2) kids2)
    rw [← hst] at hst2
    generalize mrg (nrmL (kids.take i)) = M0 at *
    rcases List.eq_nil_or_concat M0 with rfl | ⟨M, u, hMu⟩
    ·have hH10 : H1 = [] := by cases H1 with | nil => rfl | cons x xs => simp at hH1
     subst hH10
     have hst' : mrg (nrmL (kids.take (i + 1))) = [] ++ [.mk k2 tag2 key2 text2 cl2 al2 sl2 (e2, lv2, m2, d2, p2, q2) kids2] := by rw [hst2];rfl
     have hl0 : ([] : List NdH).length = 0 := rfl
     (repeat' (first|((first|refine wx1 ?_|refine wx2 ?_ ?_<;>intro hp|refine s_end hk ?_)<;>(clear hk a;intro a hk))|((first|refine wx3 ?_;intro w b|refine wx4 ?_;intro w|refine wx5 ?_;intro w v);clear hk hS a;intro hS a hk)|refine wx0 ?_|fail))
     all_goals (try (exfalso;exact hvd ⟨by assumption, by assumption⟩))
     all_goals (
      refine sg hk (g_bsT (xs := [((k2, tag2, key2, text2, ⟨x12, cl2.length, x32⟩, ⟨y12, al2.length, y32⟩, ⟨z12, sl2.length, z32⟩, (e2, lv2, m2, d2, p2, q2), ⟨u12, H2.length, u32⟩) : NdH)]) (m := 0) hk hS ?_ (hT := eT rfl) (hE := zT rfl) (hz := oT rfl));clear hk hS a;intro w ve hS a hk
      (repeat' (first|((first|refine wx1 ?_|refine wx2 ?_ ?_<;>intro hp|refine s_end hk ?_)<;>(clear hk a;intro a hk))|((first|refine wx3 ?_;intro w b|refine wx4 ?_;intro w|refine wx5 ?_;intro w v);clear hk hS a;intro hS a hk)|refine wx0 ?_|fail))
      rename Value => vf
      obtain ⟨aovf, cvf, hshp, _⟩ := (OwT.rd (hS.rd (A := OwT 61 _ vf) atx)).shape;subst hshp
      generalize ((k2, tag2, key2, text2, ⟨x12, cl2.length, x32⟩, ⟨y12, al2.length, y32⟩, ⟨z12, sl2.length, z32⟩, (e2, lv2, m2, d2, p2, q2), ⟨u12, H2.length, u32⟩) : NdH) = hd1 at hS hk
      have hS1 := forR.snoc (ts := ([] : List Tree)) (H := ([] : List NdH)) (t := .mk k2 tag2 key2 text2 cl2 al2 sl2 (e2, lv2, m2, d2, p2, q2) kids2) (h := hd1) (L := [OwT 61 (([] : List NdH) ++ [hd1]) (.slice aovf (([] : List NdH) ++ [hd1]).length cvf), OwT 100 (snapF nmI sl) (.slice aov15 (snapF nmI sl).length cv15), OwT 98 (snapF nmS al) (.slice aov12 (snapF nmS al).length cv12), OwT 9 (clnC cl) (.slice aov9 (clnC cl).length cv9), pts b2 [.int .i64 0, .string ⟨#[]⟩, .string ⟨#[]⟩, .string ⟨#[]⟩, .slice none 0 0, .slice none 0 0, .slice none 0 0, .int .i64 0, .int .i64 0, .int .i64 0, .int .i64 0, .bool false, .bool false, .slice none 0 0] 61, pts b1 [.int .i64 k, .string tag, .string key, .string text, .slice aov9 (clnC cl).length cv9, .slice aov12 (snapF nmS al).length cv12, .slice aov15 (snapF nmI sl).length cv15, .int .i64 e, .int .i64 lv, .int .i64 m, .int .i64 d, .bool p, .bool q, .slice a4 H.length m4] 61]) (hS.sub (by (repeat (first | exact Sub.nil | exact Sub.refl | refine Sub.cons atx ?_))))
      rw [← hst'] at hS1
      exact ⟨hil, ⟨([] : List NdH) ++ [hd1], aovf, cvf⟩, hk.sd, hS1, trivial⟩)
    ·rw [List.concat_eq_append] at hMu
     subst hMu
     have hne : H1 ≠ [] := by intro e0;subst e0;simp at hH1
     obtain ⟨Hd0, hdu, rfl⟩ : ∃ Hd0 h, H1 = Hd0 ++ [h] := ⟨H1.dropLast, H1.getLast hne, (List.dropLast_concat_getLast hne).symm⟩
     have hpos : 1 ≤ (Hd0 ++ [hdu]).length := by simp
     have hum : u ∈ M ++ [u] := by simp
     have htu := txtL_mem hum
     obtain ⟨ku, tagu, keyu, textu, clu, alu, slu, eu, lvu, mu, du, pu, qu, kidsu, xu1, xu2, yu1, yu2, zu1, zu2, uu1, uu2, Hu, rfl, rfl, _⟩ := hFM.init.2.split
     simp only [Tree.text] at htu
     have hxu : (Hd0 ++ [((ku, tagu, keyu, textu, ⟨xu1, clu.length, xu2⟩, ⟨yu1, alu.length, yu2⟩, ⟨zu1, slu.length, zu2⟩, (eu, lvu, mu, du, pu, qu), ⟨uu1, Hu.length, uu2⟩) : NdH)])[(((Hd0 ++ [((ku, tagu, keyu, textu, ⟨xu1, clu.length, xu2⟩, ⟨yu1, alu.length, yu2⟩, ⟨zu1, slu.length, zu2⟩, (eu, lvu, mu, du, pu, qu), ⟨uu1, Hu.length, uu2⟩) : NdH)]).length : Int) - 1).toNat]? = some ((ku, tagu, keyu, textu, ⟨xu1, clu.length, xu2⟩, ⟨yu1, alu.length, yu2⟩, ⟨zu1, slu.length, zu2⟩, (eu, lvu, mu, du, pu, qu), ⟨uu1, Hu.length, uu2⟩) : NdH) := by
      rw [List.length_append, List.length_singleton, show (((Hd0.length + 1 : Nat) : Int) - 1).toNat = Hd0.length by omega]
      simp
     rw [mrgS_app] at hst2
     simp only [Tree.kind, Tree.text, Tree.plus] at hst2
     by_cases hmg : k2 = 1 ∧ ku = 1
     ·replace hst2 := hst2.trans (if_pos hmg)
      obtain ⟨hk1, hku⟩ := hmg
      have hte : ¬ text2 = ⟨#[]⟩ := fun h => hvd ⟨hk1, h⟩
      (repeat' (first|((first|refine wx1 ?_|refine wx2 ?_ ?_<;>intro hp|refine s_end hk ?_)<;>(clear hk a;intro a hk))|((first|refine wx3 ?_;intro w b|refine wx4 ?_;intro w|refine wx5 ?_;intro w v);clear hk hS a;intro hS a hk)|refine wx0 ?_|fail))
      refine wp_drawn 10 mixed (by kernel_rfl) hk hS ?_;clear hk hS a
      (repeat' (first|(show ObxE _ _ _ _ _ _ _ _ _ (_::_) _ _ _;first|refine ox1 ?_|refine ox2 ?_ ?_<;>intro hp)|fail))
      refine' obe_val (fun us a w hk hd hS => ?_) ?_;rotate_left;focus (have hk := Kn.vw hk vwx;exact g_cat hk (same _ _) (hl := by simp only [maxLen];omega))
      (repeat' (first|(show ObxE _ _ _ _ _ _ _ _ _ (_::_) _ _ _;first|refine ox1 ?_|refine ox2 ?_ ?_<;>intro hp)|fail))
      refine obe_nil ⟨rfl, ?_⟩;intro us a w hk hS
      have hgl : ∀ h, (Hd0 ++ [((ku, tagu, keyu, textu, ⟨xu1, clu.length, xu2⟩, ⟨yu1, alu.length, yu2⟩, ⟨zu1, slu.length, zu2⟩, (eu, lvu, mu, du, pu, qu), ⟨uu1, Hu.length, uu2⟩) : NdH)])[Hd0.length]'h = ((ku, tagu, keyu, textu, ⟨xu1, clu.length, xu2⟩, ⟨yu1, alu.length, yu2⟩, ⟨zu1, slu.length, zu2⟩, (eu, lvu, mu, du, pu, qu), ⟨uu1, Hu.length, uu2⟩) : NdH) := by intro h;rw [List.getElem_append_right (Nat.le_refl _)];simp
      refine su hk (g_stF (xs := Hd0 ++ [((ku, tagu, keyu, textu, ⟨xu1, clu.length, xu2⟩, ⟨yu1, alu.length, yu2⟩, ⟨zu1, slu.length, zu2⟩, (eu, lvu, mu, du, pu, qu), ⟨uu1, Hu.length, uu2⟩) : NdH)]) (i := Hd0.length) (f := 3) (z := ((ku, tagu, keyu, textu ++ text2, ⟨xu1, clu.length, xu2⟩, ⟨yu1, alu.length, yu2⟩, ⟨zu1, slu.length, zu2⟩, (eu, lvu, mu, du, pu, qu), ⟨uu1, Hu.length, uu2⟩) : NdH)) hk hS ?_ (ho := by rw [List.length_append, List.length_singleton, show (((Hd0.length + 1 : Nat) : Int) - 1).toNat = Hd0.length by omega]) (hi := by simp) (hf := by decide) (hz := by rw [hgl];rfl) (hsz := zT rfl))
      clear hk hS a;intro w hS a hk
      have hset : (Hd0 ++ [((ku, tagu, keyu, textu, ⟨xu1, clu.length, xu2⟩, ⟨yu1, alu.length, yu2⟩, ⟨zu1, slu.length, zu2⟩, (eu, lvu, mu, du, pu, qu), ⟨uu1, Hu.length, uu2⟩) : NdH)]).set Hd0.length ((ku, tagu, keyu, textu ++ text2, ⟨xu1, clu.length, xu2⟩, ⟨yu1, alu.length, yu2⟩, ⟨zu1, slu.length, zu2⟩, (eu, lvu, mu, du, pu, qu), ⟨uu1, Hu.length, uu2⟩) : NdH) = Hd0 ++ [((ku, tagu, keyu, textu ++ text2, ⟨xu1, clu.length, xu2⟩, ⟨yu1, alu.length, yu2⟩, ⟨zu1, slu.length, zu2⟩, (eu, lvu, mu, du, pu, qu), ⟨uu1, Hu.length, uu2⟩) : NdH)] := by simp
      rw [hset] at hS
      have hle : (Hd0 ++ [((ku, tagu, keyu, textu, ⟨xu1, clu.length, xu2⟩, ⟨yu1, alu.length, yu2⟩, ⟨zu1, slu.length, zu2⟩, (eu, lvu, mu, du, pu, qu), ⟨uu1, Hu.length, uu2⟩) : NdH)]).length = (Hd0 ++ [((ku, tagu, keyu, textu ++ text2, ⟨xu1, clu.length, xu2⟩, ⟨yu1, alu.length, yu2⟩, ⟨zu1, slu.length, zu2⟩, (eu, lvu, mu, du, pu, qu), ⟨uu1, Hu.length, uu2⟩) : NdH)]).length := by simp
      (repeat' (first|((first|refine wx1 ?_|refine wx2 ?_ ?_<;>intro hp|refine s_end hk ?_)<;>(clear hk a;intro a hk))|((first|refine wx3 ?_;intro w b|refine wx4 ?_;intro w|refine wx5 ?_;intro w v);clear hk hS a;intro hS a hk)|refine wx0 ?_|fail))
      have hS1 := rdH.imp (R' := fun w => FoR w (mrg (nrmL (kids.take (i + 1)))) (Hd0 ++ [((ku, tagu, keyu, textu ++ text2, ⟨xu1, clu.length, xu2⟩, ⟨yu1, alu.length, yu2⟩, ⟨zu1, slu.length, zu2⟩, (eu, lvu, mu, du, pu, qu), ⟨uu1, Hu.length, uu2⟩) : NdH)])) (L := [OwT 61 (Hd0 ++ [((ku, tagu, keyu, textu ++ text2, ⟨xu1, clu.length, xu2⟩, ⟨yu1, alu.length, yu2⟩, ⟨zu1, slu.length, zu2⟩, (eu, lvu, mu, du, pu, qu), ⟨uu1, Hu.length, uu2⟩) : NdH)]) (.slice ao1 (Hd0 ++ [((ku, tagu, keyu, textu, ⟨xu1, clu.length, xu2⟩, ⟨yu1, alu.length, yu2⟩, ⟨zu1, slu.length, zu2⟩, (eu, lvu, mu, du, pu, qu), ⟨uu1, Hu.length, uu2⟩) : NdH)]).length cc1), OwT 100 (snapF nmI sl) (.slice aov15 (snapF nmI sl).length cv15), OwT 98 (snapF nmS al) (.slice aov12 (snapF nmS al).length cv12), OwT 9 (clnC cl) (.slice aov9 (clnC cl).length cv9), pts b2 [.int .i64 0, .string ⟨#[]⟩, .string ⟨#[]⟩, .string ⟨#[]⟩, .slice none 0 0, .slice none 0 0, .slice none 0 0, .int .i64 0, .int .i64 0, .int .i64 0, .int .i64 0, .bool false, .bool false, .slice none 0 0] 61, pts b1 [.int .i64 k, .string tag, .string key, .string text, .slice aov9 (clnC cl).length cv9, .slice aov12 (snapF nmS al).length cv12, .slice aov15 (snapF nmI sl).length cv15, .int .i64 e, .int .i64 lv, .int .i64 m, .int .i64 d, .bool p, .bool q, .slice a4 H.length m4] 61]) (hS.sub (by (repeat (first | exact Sub.nil | exact Sub.refl | refine Sub.cons atx ?_)))) (FoR.stays (M ++ [.mk ku tagu keyu textu clu alu slu (eu, lvu, mu, du, pu, qu) kidsu]) (Hd0 ++ [((ku, tagu, keyu, textu, ⟨xu1, clu.length, xu2⟩, ⟨yu1, alu.length, yu2⟩, ⟨zu1, slu.length, zu2⟩, (eu, lvu, mu, du, pu, qu), ⟨uu1, Hu.length, uu2⟩) : NdH)])) (fun g hg => by rw [hst2];exact FoR.plus hg)
      rw [hle] at hS1
      rw [hle] at hk
      exact ⟨hil, ⟨Hd0 ++ [((ku, tagu, keyu, textu ++ text2, ⟨xu1, clu.length, xu2⟩, ⟨yu1, alu.length, yu2⟩, ⟨zu1, slu.length, zu2⟩, (eu, lvu, mu, du, pu, qu), ⟨uu1, Hu.length, uu2⟩) : NdH)], ao1, cc1⟩, hk.sd, hS1, trivial⟩
     ·replace hst2 := hst2.trans (if_neg hmg)
      have hst' := hst2
      clear hst2
      by_cases hk1 : k2 = 1
      ·have hkp : ¬ ku = 1 := fun h => hmg ⟨hk1, h⟩
       have hte : ¬ text2 = ⟨#[]⟩ := fun h => hvd ⟨hk1, h⟩
       (repeat' (first|((first|refine wx1 ?_|refine wx2 ?_ ?_<;>intro hp|refine s_end hk ?_)<;>(clear hk a;intro a hk))|((first|refine wx3 ?_;intro w b|refine wx4 ?_;intro w|refine wx5 ?_;intro w v);clear hk hS a;intro hS a hk)|refine wx0 ?_|fail))
       refine sg hk (g_bsT (xs := [((k2, tag2, key2, text2, ⟨x12, cl2.length, x32⟩, ⟨y12, al2.length, y32⟩, ⟨z12, sl2.length, z32⟩, (e2, lv2, m2, d2, p2, q2), ⟨u12, H2.length, u32⟩) : NdH)]) (m := 0) hk hS ?_ (hT := eT rfl) (hE := zT rfl) (hz := oT rfl));clear hk hS a;intro w ve hS a hk
       (repeat' (first|((first|refine wx1 ?_|refine wx2 ?_ ?_<;>intro hp|refine s_end hk ?_)<;>(clear hk a;intro a hk))|((first|refine wx3 ?_;intro w b|refine wx4 ?_;intro w|refine wx5 ?_;intro w v);clear hk hS a;intro hS a hk)|refine wx0 ?_|fail))
       rename Value => vf
       obtain ⟨aovf, cvf, hshp, _⟩ := (OwT.rd (hS.rd (A := OwT 61 _ vf) atx)).shape;subst hshp
       generalize ((k2, tag2, key2, text2, ⟨x12, cl2.length, x32⟩, ⟨y12, al2.length, y32⟩, ⟨z12, sl2.length, z32⟩, (e2, lv2, m2, d2, p2, q2), ⟨u12, H2.length, u32⟩) : NdH) = hd1 at hS hk
       have hS1 := forR.snoc (ts := (M ++ [.mk ku tagu keyu textu clu alu slu (eu, lvu, mu, du, pu, qu) kidsu])) (H := (Hd0 ++ [((ku, tagu, keyu, textu, ⟨xu1, clu.length, xu2⟩, ⟨yu1, alu.length, yu2⟩, ⟨zu1, slu.length, zu2⟩, (eu, lvu, mu, du, pu, qu), ⟨uu1, Hu.length, uu2⟩) : NdH)])) (t := .mk k2 tag2 key2 text2 cl2 al2 sl2 (e2, lv2, m2, d2, p2, q2) kids2) (h := hd1) (L := [OwT 61 ((Hd0 ++ [((ku, tagu, keyu, textu, ⟨xu1, clu.length, xu2⟩, ⟨yu1, alu.length, yu2⟩, ⟨zu1, slu.length, zu2⟩, (eu, lvu, mu, du, pu, qu), ⟨uu1, Hu.length, uu2⟩) : NdH)]) ++ [hd1]) (.slice aovf ((Hd0 ++ [((ku, tagu, keyu, textu, ⟨xu1, clu.length, xu2⟩, ⟨yu1, alu.length, yu2⟩, ⟨zu1, slu.length, zu2⟩, (eu, lvu, mu, du, pu, qu), ⟨uu1, Hu.length, uu2⟩) : NdH)]) ++ [hd1]).length cvf), OwT 100 (snapF nmI sl) (.slice aov15 (snapF nmI sl).length cv15), OwT 98 (snapF nmS al) (.slice aov12 (snapF nmS al).length cv12), OwT 9 (clnC cl) (.slice aov9 (clnC cl).length cv9), pts b2 [.int .i64 0, .string ⟨#[]⟩, .string ⟨#[]⟩, .string ⟨#[]⟩, .slice none 0 0, .slice none 0 0, .slice none 0 0, .int .i64 0, .int .i64 0, .int .i64 0, .int .i64 0, .bool false, .bool false, .slice none 0 0] 61, pts b1 [.int .i64 k, .string tag, .string key, .string text, .slice aov9 (clnC cl).length cv9, .slice aov12 (snapF nmS al).length cv12, .slice aov15 (snapF nmI sl).length cv15, .int .i64 e, .int .i64 lv, .int .i64 m, .int .i64 d, .bool p, .bool q, .slice a4 H.length m4] 61]) (hS.sub (by (repeat (first | exact Sub.nil | exact Sub.refl | refine Sub.cons atx ?_))))
       rw [← hst'] at hS1
       exact ⟨hil, ⟨(Hd0 ++ [((ku, tagu, keyu, textu, ⟨xu1, clu.length, xu2⟩, ⟨yu1, alu.length, yu2⟩, ⟨zu1, slu.length, zu2⟩, (eu, lvu, mu, du, pu, qu), ⟨uu1, Hu.length, uu2⟩) : NdH)]) ++ [hd1], aovf, cvf⟩, hk.sd, hS1, trivial⟩
      ·(repeat' (first|((first|refine wx1 ?_|refine wx2 ?_ ?_<;>intro hp|refine s_end hk ?_)<;>(clear hk a;intro a hk))|((first|refine wx3 ?_;intro w b|refine wx4 ?_;intro w|refine wx5 ?_;intro w v);clear hk hS a;intro hS a hk)|refine wx0 ?_|fail))
       refine sg hk (g_bsT (xs := [((k2, tag2, key2, text2, ⟨x12, cl2.length, x32⟩, ⟨y12, al2.length, y32⟩, ⟨z12, sl2.length, z32⟩, (e2, lv2, m2, d2, p2, q2), ⟨u12, H2.length, u32⟩) : NdH)]) (m := 0) hk hS ?_ (hT := eT rfl) (hE := zT rfl) (hz := oT rfl));clear hk hS a;intro w ve hS a hk
       (repeat' (first|((first|refine wx1 ?_|refine wx2 ?_ ?_<;>intro hp|refine s_end hk ?_)<;>(clear hk a;intro a hk))|((first|refine wx3 ?_;intro w b|refine wx4 ?_;intro w|refine wx5 ?_;intro w v);clear hk hS a;intro hS a hk)|refine wx0 ?_|fail))
       rename Value => vf
       obtain ⟨aovf, cvf, hshp, _⟩ := (OwT.rd (hS.rd (A := OwT 61 _ vf) atx)).shape;subst hshp
       generalize ((k2, tag2, key2, text2, ⟨x12, cl2.length, x32⟩, ⟨y12, al2.length, y32⟩, ⟨z12, sl2.length, z32⟩, (e2, lv2, m2, d2, p2, q2), ⟨u12, H2.length, u32⟩) : NdH) = hd1 at hS hk
       have hS1 := forR.snoc (ts := (M ++ [.mk ku tagu keyu textu clu alu slu (eu, lvu, mu, du, pu, qu) kidsu])) (H := (Hd0 ++ [((ku, tagu, keyu, textu, ⟨xu1, clu.length, xu2⟩, ⟨yu1, alu.length, yu2⟩, ⟨zu1, slu.length, zu2⟩, (eu, lvu, mu, du, pu, qu), ⟨uu1, Hu.length, uu2⟩) : NdH)])) (t := .mk k2 tag2 key2 text2 cl2 al2 sl2 (e2, lv2, m2, d2, p2, q2) kids2) (h := hd1) (L := [OwT 61 ((Hd0 ++ [((ku, tagu, keyu, textu, ⟨xu1, clu.length, xu2⟩, ⟨yu1, alu.length, yu2⟩, ⟨zu1, slu.length, zu2⟩, (eu, lvu, mu, du, pu, qu), ⟨uu1, Hu.length, uu2⟩) : NdH)]) ++ [hd1]) (.slice aovf ((Hd0 ++ [((ku, tagu, keyu, textu, ⟨xu1, clu.length, xu2⟩, ⟨yu1, alu.length, yu2⟩, ⟨zu1, slu.length, zu2⟩, (eu, lvu, mu, du, pu, qu), ⟨uu1, Hu.length, uu2⟩) : NdH)]) ++ [hd1]).length cvf), OwT 100 (snapF nmI sl) (.slice aov15 (snapF nmI sl).length cv15), OwT 98 (snapF nmS al) (.slice aov12 (snapF nmS al).length cv12), OwT 9 (clnC cl) (.slice aov9 (clnC cl).length cv9), pts b2 [.int .i64 0, .string ⟨#[]⟩, .string ⟨#[]⟩, .string ⟨#[]⟩, .slice none 0 0, .slice none 0 0, .slice none 0 0, .int .i64 0, .int .i64 0, .int .i64 0, .int .i64 0, .bool false, .bool false, .slice none 0 0] 61, pts b1 [.int .i64 k, .string tag, .string key, .string text, .slice aov9 (clnC cl).length cv9, .slice aov12 (snapF nmS al).length cv12, .slice aov15 (snapF nmI sl).length cv15, .int .i64 e, .int .i64 lv, .int .i64 m, .int .i64 d, .bool p, .bool q, .slice a4 H.length m4] 61]) (hS.sub (by (repeat (first | exact Sub.nil | exact Sub.refl | refine Sub.cons atx ?_))))
       rw [← hst'] at hS1
       exact ⟨hil, ⟨(Hd0 ++ [((ku, tagu, keyu, textu, ⟨xu1, clu.length, xu2⟩, ⟨yu1, alu.length, yu2⟩, ⟨zu1, slu.length, zu2⟩, (eu, lvu, mu, du, pu, qu), ⟨uu1, Hu.length, uu2⟩) : NdH)]) ++ [hd1], aovf, cvf⟩, hk.sd, hS1, trivial⟩
  ·have hii : i = kids.length := by omega
   subst hii
   rw [List.take_length] at hS hH1 hml
   have hnn := nrmL_len kids
   have hn' : nrm (.mk k tag key text cl al sl (e, lv, m, d, p, q) kids) = .mk k tag key text (clnC cl) (snapF nmS al) (snapF nmI sl) (e, lv, m, d, p, q) (mrg (nrmL kids)) := by rw [nrm]
   rw [hn']
   (repeat' (first|((first|refine wx1 ?_|refine wx2 ?_ ?_<;>intro hp|refine s_end hk ?_)<;>(clear hk a;intro a hk))|((first|refine wx3 ?_;intro w b|refine wx4 ?_;intro w|refine wx5 ?_;intro w v);clear hk hS a;intro hS a hk)|refine wx0 ?_|fail))
   refine done1R hk rfl (.str hS (hT := aT rfl) (hs := zT rfl)) (h := ?_)
   exact treeH.of (h := (k, tag, key, text, ⟨aov9, (clnC cl).length, cv9⟩, ⟨aov12, (snapF nmS al).length, cv12⟩, ⟨aov15, (snapF nmI sl).length, cv15⟩, (e, lv, m, d, p, q), ⟨ao1, H1.length, cc1⟩)) (treeR.of (A1 := OwT 9 (clnC cl) (.slice aov9 (clnC cl).length cv9)) (A2 := OwT 98 (snapF nmS al) (.slice aov12 (snapF nmS al).length cv12)) (A3 := OwT 100 (snapF nmI sl) (.slice aov15 (snapF nmI sl).length cv15)) (A4 := OwT 61 H1 (.slice ao1 H1.length cc1)) (hS.sub (by (repeat (first | exact Sub.nil | exact Sub.refl | refine Sub.cons atx ?_)))))
end Go.Proofs.YtgklceoodpocaaaGreatDoor
namespace Go.Proofs.YtgklceoodpocaaaGreatDoor
open Go.RowKit
set_option maxRecDepth 100000
attribute [local irreducible] Go.Code.wpIn Go.wpListIn Go.Calls Gives Go.Exit.then Go.Exit.inBlock Done ObxE
set_option maxHeartbeats 1000000 in
theorem equalI_any (xs ys : List PrI) (vx vy : Value) (w0 : World) (hx : SlT xs vx w0) (hy : SlT ys vy w0) (hl : xs.length ≤ 1000) :
  Calls Tryz.prog 87 #[vx, vy] w0 (Ret fun v w => v = .bool (decide (xs = ys)) ∧ St w0 [] w) := by
 refine enter Tryz.func87 rfl Tryz.ntmps87 rfl (fun a hk => ?_);have hS := St.refl w0
 (repeat' (first|((first|refine wx1 ?_|refine wx2 ?_ ?_<;>intro hp|refine s_end hk ?_)<;>(clear hk a;intro a hk))|((first|refine wx3 ?_;intro w b|refine wx4 ?_;intro w|refine wx5 ?_;intro w v);clear hk hS a;intro hS a hk)|refine wx0 ?_|fail))
 ·replace hk := Kn.kp [0, 1, 12, 13] hk
  refine wp_for xs.length (fun i _ => [(13, .int .i64 (i : Int))]) (fun _ _ => []) (fun i _ => ∀ j, j < i → xs[j]? = ys[j]?) () hk skx hS (fun j hj => by omega) ?_
  clear hk hS a
  rintro i - a w hi hk hS hF
  by_cases hil : i < xs.length
  ·(repeat' (first|((first|refine wx1 ?_|refine wx2 ?_ ?_<;>intro hp|refine s_end hk ?_)<;>(clear hk a;intro a hk))|((first|refine wx3 ?_;intro w b|refine wx4 ?_;intro w|refine wx5 ?_;intro w v);clear hk hS a;intro hS a hk)|refine wx0 ?_|fail))
   refine wp_drawn 8 mixed (by kernel_rfl) hk hS ?_;clear hk hS a
   (repeat' (first|(show ObxE _ _ _ _ _ _ _ _ _ (_::_) _ _ _;first|refine ox1 ?_|refine ox2 ?_ ?_<;>intro hp)|fail))
   refine obe_nil ⟨rfl, ?_⟩;intro us a w hk hS
   (repeat' (first|((first|refine wx1 ?_|refine wx2 ?_ ?_<;>intro hp|refine s_end hk ?_)<;>(clear hk a;intro a hk))|((first|refine wx3 ?_;intro w b|refine wx4 ?_;intro w|refine wx5 ?_;intro w v);clear hk hS a;intro hS a hk)|refine wx0 ?_|fail))
   ·have he := eqC_enc (x := xs[i]'hil) (y := ys[i]'(by omega)) (by assumption)
    rw [if_pos rfl] at he
    refine ⟨hil, (), hk.sd, hS, fun j hj => ?_⟩
    by_cases e : j = i
    ·subst e
     rw [List.getElem?_eq_getElem hil, List.getElem?_eq_getElem (by omega), he]
    ·exact hF j (by omega)
   ·have he := eqC_enc (x := xs[i]'hil) (y := ys[i]'(by omega)) (by assumption)
    rw [if_neg (by decide)] at he
    refine done1 hk (h := ⟨?_, hS.nil⟩)
    rw [decide_eq_false]
    intro e
    subst e
    exact he rfl
  ·(repeat' (first|((first|refine wx1 ?_|refine wx2 ?_ ?_<;>intro hp|refine s_end hk ?_)<;>(clear hk a;intro a hk))|((first|refine wx3 ?_;intro w b|refine wx4 ?_;intro w|refine wx5 ?_;intro w v);clear hk hS a;intro hS a hk)|refine wx0 ?_|fail))
   refine done1 hk (h := ⟨?_, hS.nil⟩)
   rw [decide_eq_true]
   apply List.ext_getElem?
   intro j
   by_cases hj : j < i
   ·exact hF j hj
   ·rw [List.getElem?_eq_none (by omega), List.getElem?_eq_none (by omega)]
 ·refine done1 hk (h := ⟨?_, hS.nil⟩)
  rw [decide_eq_false]
  intro e
  subst e
  have : ¬ ((xs.length : Nat) : Int) = ((xs.length : Nat) : Int) := by assumption
  exact this rfl
theorem sameI_any (l m : List PrI) (v u : Value) (w0 : World) (hv : SlT l v w0) (hu : SlT m u w0) (hl : l.length ≤ 1000) (hm : m.length ≤ 1000) :
  Calls Tryz.prog 42 #[v, u] w0 (Ret fun v w => v = .bool (decide (snapF nmI l = snapF nmI m)) ∧ St w0 [] w) := by
 have hsl := snap_len nmI l
 refine enter Tryz.func42 rfl Tryz.ntmps42 rfl (fun a hk => ?_);have hS := St.refl w0
 (repeat' (first|((first|refine wx1 ?_|refine wx2 ?_ ?_<;>intro hp|refine s_end hk ?_)<;>(clear hk a;intro a hk))|((first|refine wx3 ?_;intro w b|refine wx4 ?_;intro w|refine wx5 ?_;intro w v);clear hk hS a;intro hS a hk)|refine wx0 ?_|fail))
 refine sg hk (g_callO hk (hf := by kernel_rfl) (hc := ofI_any l v _ (hS.rdT hv) hl) (h := ?_));clear hk a;rintro vs w hS1 a hk;replace hS := hS.call hS1;clear hS1
 (repeat' (first|((first|refine wx1 ?_|refine wx2 ?_ ?_<;>intro hp|refine s_end hk ?_)<;>(clear hk a;intro a hk))|((first|refine wx3 ?_;intro w b|refine wx4 ?_;intro w|refine wx5 ?_;intro w v);clear hk hS a;intro hS a hk)|refine wx0 ?_|fail))
 refine sg hk (g_callO hk (hf := by kernel_rfl) (hc := ofI_any m u _ (hS.rdT hu) hm) (h := ?_));clear hk a;rintro vt w hS1 a hk;replace hS := hS.call hS1;clear hS1
 (repeat' (first|((first|refine wx1 ?_|refine wx2 ?_ ?_<;>intro hp|refine s_end hk ?_)<;>(clear hk a;intro a hk))|((first|refine wx3 ?_;intro w b|refine wx4 ?_;intro w|refine wx5 ?_;intro w v);clear hk hS a;intro hS a hk)|refine wx0 ?_|fail))
 refine sg hk (g_callO hk (hf := by kernel_rfl) (hc := equalI_any _ _ vs vt _ (by first | exact St.rdT hS (by assumption) | exact OwT.rd (hS.rd (A := OwT _ _ _) atx) | assumption) (by first | exact St.rdT hS (by assumption) | exact OwT.rd (hS.rd (A := OwT _ _ _) atx) | assumption) (by omega)) (h := ?_));clear hk a;rintro _ w ⟨rfl, hS1⟩ a hk;replace hS := hS.call0 hS1;clear hS1
 (repeat' (first|((first|refine wx1 ?_|refine wx2 ?_ ?_<;>intro hp|refine s_end hk ?_)<;>(clear hk a;intro a hk))|((first|refine wx3 ?_;intro w b|refine wx4 ?_;intro w|refine wx5 ?_;intro w v);clear hk hS a;intro hS a hk)|refine wx0 ?_|fail))
 exact done1 hk (h := ⟨rfl, hS.nil⟩)
set_option maxHeartbeats 1000000 in
theorem equalS_any (xs ys : List PrS) (vx vy : Value) (w0 : World) (hx : SlT xs vx w0) (hy : SlT ys vy w0) (hl : xs.length ≤ 1000) :
  Calls Tryz.prog 86 #[vx, vy] w0 (Ret fun v w => v = .bool (decide (xs = ys)) ∧ St w0 [] w) := by
 refine enter Tryz.func86 rfl Tryz.ntmps86 rfl (fun a hk => ?_);have hS := St.refl w0
 (repeat' (first|((first|refine wx1 ?_|refine wx2 ?_ ?_<;>intro hp|refine s_end hk ?_)<;>(clear hk a;intro a hk))|((first|refine wx3 ?_;intro w b|refine wx4 ?_;intro w|refine wx5 ?_;intro w v);clear hk hS a;intro hS a hk)|refine wx0 ?_|fail))
 ·replace hk := Kn.kp [0, 1, 12, 13] hk
  refine wp_for xs.length (fun i _ => [(13, .int .i64 (i : Int))]) (fun _ _ => []) (fun i _ => ∀ j, j < i → xs[j]? = ys[j]?) () hk skx hS (fun j hj => by omega) ?_
  clear hk hS a
  rintro i - a w hi hk hS hF
  by_cases hil : i < xs.length
  ·(repeat' (first|((first|refine wx1 ?_|refine wx2 ?_ ?_<;>intro hp|refine s_end hk ?_)<;>(clear hk a;intro a hk))|((first|refine wx3 ?_;intro w b|refine wx4 ?_;intro w|refine wx5 ?_;intro w v);clear hk hS a;intro hS a hk)|refine wx0 ?_|fail))
   refine wp_drawn 8 mixed (by kernel_rfl) hk hS ?_;clear hk hS a
   (repeat' (first|(show ObxE _ _ _ _ _ _ _ _ _ (_::_) _ _ _;first|refine ox1 ?_|refine ox2 ?_ ?_<;>intro hp)|fail))
   refine obe_nil ⟨rfl, ?_⟩;intro us a w hk hS
   (repeat' (first|((first|refine wx1 ?_|refine wx2 ?_ ?_<;>intro hp|refine s_end hk ?_)<;>(clear hk a;intro a hk))|((first|refine wx3 ?_;intro w b|refine wx4 ?_;intro w|refine wx5 ?_;intro w v);clear hk hS a;intro hS a hk)|refine wx0 ?_|fail))
   ·have he := eqC_enc (x := xs[i]'hil) (y := ys[i]'(by omega)) (by assumption)
    rw [if_pos rfl] at he
    refine ⟨hil, (), hk.sd, hS, fun j hj => ?_⟩
    by_cases e : j = i
    ·subst e
     rw [List.getElem?_eq_getElem hil, List.getElem?_eq_getElem (by omega), he]
    ·exact hF j (by omega)
   ·have he := eqC_enc (x := xs[i]'hil) (y := ys[i]'(by omega)) (by assumption)
    rw [if_neg (by decide)] at he
    refine done1 hk (h := ⟨?_, hS.nil⟩)
    rw [decide_eq_false]
    intro e
    subst e
    exact he rfl
  ·(repeat' (first|((first|refine wx1 ?_|refine wx2 ?_ ?_<;>intro hp|refine s_end hk ?_)<;>(clear hk a;intro a hk))|((first|refine wx3 ?_;intro w b|refine wx4 ?_;intro w|refine wx5 ?_;intro w v);clear hk hS a;intro hS a hk)|refine wx0 ?_|fail))
   refine done1 hk (h := ⟨?_, hS.nil⟩)
   rw [decide_eq_true]
   apply List.ext_getElem?
   intro j
   by_cases hj : j < i
   ·exact hF j hj
   ·rw [List.getElem?_eq_none (by omega), List.getElem?_eq_none (by omega)]
 ·refine done1 hk (h := ⟨?_, hS.nil⟩)
  rw [decide_eq_false]
  intro e
  subst e
  have : ¬ ((xs.length : Nat) : Int) = ((xs.length : Nat) : Int) := by assumption
  exact this rfl
theorem sameS_any (l m : List PrS) (v u : Value) (w0 : World) (hv : SlT l v w0) (hu : SlT m u w0) (hl : l.length ≤ 1000) (hm : m.length ≤ 1000) :
  Calls Tryz.prog 41 #[v, u] w0 (Ret fun v w => v = .bool (decide (snapF nmS l = snapF nmS m)) ∧ St w0 [] w) := by
 have hsl := snap_len nmS l
 refine enter Tryz.func41 rfl Tryz.ntmps41 rfl (fun a hk => ?_);have hS := St.refl w0
 (repeat' (first|((first|refine wx1 ?_|refine wx2 ?_ ?_<;>intro hp|refine s_end hk ?_)<;>(clear hk a;intro a hk))|((first|refine wx3 ?_;intro w b|refine wx4 ?_;intro w|refine wx5 ?_;intro w v);clear hk hS a;intro hS a hk)|refine wx0 ?_|fail))
 refine sg hk (g_callO hk (hf := by kernel_rfl) (hc := ofS_any l v _ (hS.rdT hv) hl) (h := ?_));clear hk a;rintro vs w hS1 a hk;replace hS := hS.call hS1;clear hS1
 (repeat' (first|((first|refine wx1 ?_|refine wx2 ?_ ?_<;>intro hp|refine s_end hk ?_)<;>(clear hk a;intro a hk))|((first|refine wx3 ?_;intro w b|refine wx4 ?_;intro w|refine wx5 ?_;intro w v);clear hk hS a;intro hS a hk)|refine wx0 ?_|fail))
 refine sg hk (g_callO hk (hf := by kernel_rfl) (hc := ofS_any m u _ (hS.rdT hu) hm) (h := ?_));clear hk a;rintro vt w hS1 a hk;replace hS := hS.call hS1;clear hS1
 (repeat' (first|((first|refine wx1 ?_|refine wx2 ?_ ?_<;>intro hp|refine s_end hk ?_)<;>(clear hk a;intro a hk))|((first|refine wx3 ?_;intro w b|refine wx4 ?_;intro w|refine wx5 ?_;intro w v);clear hk hS a;intro hS a hk)|refine wx0 ?_|fail))
 refine sg hk (g_callO hk (hf := by kernel_rfl) (hc := equalS_any _ _ vs vt _ (by first | exact St.rdT hS (by assumption) | exact OwT.rd (hS.rd (A := OwT _ _ _) atx) | assumption) (by first | exact St.rdT hS (by assumption) | exact OwT.rd (hS.rd (A := OwT _ _ _) atx) | assumption) (by omega)) (h := ?_));clear hk a;rintro _ w ⟨rfl, hS1⟩ a hk;replace hS := hS.call0 hS1;clear hS1
 (repeat' (first|((first|refine wx1 ?_|refine wx2 ?_ ?_<;>intro hp|refine s_end hk ?_)<;>(clear hk a;intro a hk))|((first|refine wx3 ?_;intro w b|refine wx4 ?_;intro w|refine wx5 ?_;intro w v);clear hk hS a;intro hS a hk)|refine wx0 ?_|fail))
 exact done1 hk (h := ⟨rfl, hS.nil⟩)
set_option maxHeartbeats 1000000 in
theorem equalC_any (xs ys : List ByteArray) (vx vy : Value) (w0 : World) (hx : SlT xs vx w0) (hy : SlT ys vy w0) (hl : xs.length ≤ 1000) :
  Calls Tryz.prog 85 #[vx, vy] w0 (Ret fun v w => v = .bool (decide (xs = ys)) ∧ St w0 [] w) := by
 refine enter Tryz.func85 rfl Tryz.ntmps85 rfl (fun a hk => ?_);have hS := St.refl w0
 (repeat' (first|((first|refine wx1 ?_|refine wx2 ?_ ?_<;>intro hp|refine s_end hk ?_)<;>(clear hk a;intro a hk))|((first|refine wx3 ?_;intro w b|refine wx4 ?_;intro w|refine wx5 ?_;intro w v);clear hk hS a;intro hS a hk)|refine wx0 ?_|fail))
 ·replace hk := Kn.kp [0, 1, 12, 13] hk
  refine wp_for xs.length (fun i _ => [(13, .int .i64 (i : Int))]) (fun _ _ => []) (fun i _ => ∀ j, j < i → xs[j]? = ys[j]?) () hk skx hS (fun j hj => by omega) ?_
  clear hk hS a
  rintro i - a w hi hk hS hF
  by_cases hil : i < xs.length
  ·(repeat' (first|((first|refine wx1 ?_|refine wx2 ?_ ?_<;>intro hp|refine s_end hk ?_)<;>(clear hk a;intro a hk))|((first|refine wx3 ?_;intro w b|refine wx4 ?_;intro w|refine wx5 ?_;intro w v);clear hk hS a;intro hS a hk)|refine wx0 ?_|fail))
   refine wp_drawn 8 mixed (by kernel_rfl) hk hS ?_;clear hk hS a
   (repeat' (first|(show ObxE _ _ _ _ _ _ _ _ _ (_::_) _ _ _;first|refine ox1 ?_|refine ox2 ?_ ?_<;>intro hp)|fail))
   refine obe_nil ⟨rfl, ?_⟩;intro us a w hk hS
   (repeat' (first|((first|refine wx1 ?_|refine wx2 ?_ ?_<;>intro hp|refine s_end hk ?_)<;>(clear hk a;intro a hk))|((first|refine wx3 ?_;intro w b|refine wx4 ?_;intro w|refine wx5 ?_;intro w v);clear hk hS a;intro hS a hk)|refine wx0 ?_|fail))
   ·have he : xs[i]'hil = ys[i]'(by omega) := by assumption
    refine ⟨hil, (), hk.sd, hS, fun j hj => ?_⟩
    by_cases e : j = i
    ·subst e
     rw [List.getElem?_eq_getElem hil, List.getElem?_eq_getElem (by omega), he]
    ·exact hF j (by omega)
   ·have he : ¬ xs[i]'hil = ys[i]'(by omega) := by assumption
    refine done1 hk (h := ⟨?_, hS.nil⟩)
    rw [decide_eq_false]
    intro e
    subst e
    exact he rfl
  ·(repeat' (first|((first|refine wx1 ?_|refine wx2 ?_ ?_<;>intro hp|refine s_end hk ?_)<;>(clear hk a;intro a hk))|((first|refine wx3 ?_;intro w b|refine wx4 ?_;intro w|refine wx5 ?_;intro w v);clear hk hS a;intro hS a hk)|refine wx0 ?_|fail))
   refine done1 hk (h := ⟨?_, hS.nil⟩)
   rw [decide_eq_true]
   apply List.ext_getElem?
   intro j
   by_cases hj : j < i
   ·exact hF j hj
   ·rw [List.getElem?_eq_none (by omega), List.getElem?_eq_none (by omega)]
 ·refine done1 hk (h := ⟨?_, hS.nil⟩)
  rw [decide_eq_false]
  intro e
  subst e
  have : ¬ ((xs.length : Nat) : Int) = ((xs.length : Nat) : Int) := by assumption
  exact this rfl
theorem cSame_any (xs ys : List ByteArray) (vx vy : Value) (w0 : World) (hx : SlT xs vx w0) (hy : SlT ys vy w0) (hl : xs.length ≤ 1000) :
  Calls Tryz.prog 40 #[vx, vy] w0 (Ret fun v w => v = .bool (decide (xs = ys)) ∧ St w0 [] w) := by
 refine enter Tryz.func40 rfl Tryz.ntmps40 rfl (fun a hk => ?_);have hS := St.refl w0
 (repeat' (first|((first|refine wx1 ?_|refine wx2 ?_ ?_<;>intro hp|refine s_end hk ?_)<;>(clear hk a;intro a hk))|((first|refine wx3 ?_;intro w b|refine wx4 ?_;intro w|refine wx5 ?_;intro w v);clear hk hS a;intro hS a hk)|refine wx0 ?_|fail))
 refine sg hk (g_callO hk (hf := by kernel_rfl) (hc := equalC_any xs ys vx vy _ (hS.rdT hx) (hS.rdT hy) hl) (h := ?_));clear hk a;rintro _ w ⟨rfl, hS1⟩ a hk;replace hS := hS.call0 hS1;clear hS1
 (repeat' (first|((first|refine wx1 ?_|refine wx2 ?_ ?_<;>intro hp|refine s_end hk ?_)<;>(clear hk a;intro a hk))|((first|refine wx3 ?_;intro w b|refine wx4 ?_;intro w|refine wx5 ?_;intro w v);clear hk hS a;intro hS a hk)|refine wx0 ?_|fail))
 exact done1 hk (h := ⟨rfl, hS.nil⟩)
set_option maxHeartbeats 4000000 in
theorem eqFunc9_any (f : FuncId) (hf : callable Tryz.prog f = true) (ts us : List STree) (H G : List SnH) (v u : Value) (w0 : World) (hv : SlT H v w0) (hu : SlT G u w0) (hF : SoR w0 ts H) (hG : SoR w0 us G) (hlen : ts.length ≤ 1000)
  (hc : ∀ (i : Nat) (t t' : STree) (hd gd : SnH) (w : World), ts[i]? = some t → us[i]? = some t' → SrR w t hd → SrR w t' gd → Calls Tryz.prog f #[snV hd, snV gd] w (Ret fun r w' => r = .bool (samS t t') ∧ St w [] w')) :
  Calls Tryz.prog 43 #[v, u, .func (.func f) #[] #[]] w0 (Ret fun r w => r = .bool (samSL ts us) ∧ St w0 [] w) := by
 have hHk : H.length = ts.length := hF.1
 have hGk : G.length = us.length := hG.1
 have hiff := samSL_iff ts us
 refine enter Tryz.func43 rfl Tryz.ntmps43 rfl (fun a hk => ?_);have hS := St.refl w0
 by_cases hln : H.length = G.length
 ·(repeat' (first|((first|refine wx1 ?_|refine wx2 ?_ ?_<;>intro hp|refine s_end hk ?_)<;>(clear hk a;intro a hk))|((first|refine wx3 ?_;intro w b|refine wx4 ?_;intro w|refine wx5 ?_;intro w v);clear hk hS a;intro hS a hk)|refine wx0 ?_|fail))
  replace hk := Kn.kp [1, 2, 15, 16, 17] hk
  refine wp_for H.length (fun i _ => [(17, .int .i64 (i : Int))]) (fun _ _ => []) (fun i _ => ∀ (j : Nat) (t u : STree), j < i → ts[j]? = some t → us[j]? = some u → samS t u = true) () hk skx hS.sb (fun j t u hj => by omega) ?_
  clear hk hS a
  rintro i - a w hi hk hS hEq
  have hv1 := hS.rdT hv
  have hu1 := hS.rdT hu
  by_cases hil : i < H.length
  ·obtain ⟨tk, htk⟩ : ∃ t, ts[i]? = some t := ⟨_, List.getElem?_eq_getElem (by omega)⟩
   obtain ⟨uk, huk⟩ : ∃ t, us[i]? = some t := ⟨_, List.getElem?_eq_getElem (by omega)⟩
   obtain ⟨hd0, hx⟩ : ∃ x, H[i]? = some x := ⟨_, List.getElem?_eq_getElem hil⟩
   obtain ⟨gd0, hy⟩ : ∃ x, G[i]? = some x := ⟨_, List.getElem?_eq_getElem (by omega)⟩
   have hTr := hF.2 i tk hd0 htk hx
   have hTu := hG.2 i uk gd0 huk hy
   obtain ⟨id0, k0, tag0, text0, ⟨x1, x2, x3⟩, ⟨y1, y2, y3⟩, ⟨z1, z2, z3⟩, ⟨u1, u2, u3⟩⟩ := hd0
   obtain ⟨id9, k9, tag9, text9, ⟨x19, x29, x39⟩, ⟨y19, y29, y39⟩, ⟨z19, z29, z39⟩, ⟨u19, u29, u39⟩⟩ := gd0
   have hcall := fun w h1 h2 => hc i tk uk (id0, k0, tag0, text0, ⟨x1, x2, x3⟩, ⟨y1, y2, y3⟩, ⟨z1, z2, z3⟩, ⟨u1, u2, u3⟩) (id9, k9, tag9, text9, ⟨x19, x29, x39⟩, ⟨y19, y29, y39⟩, ⟨z19, z29, z39⟩, ⟨u19, u29, u39⟩) w htk huk h1 h2
   (repeat' (first|((first|refine wx1 ?_|refine wx2 ?_ ?_<;>intro hp|refine s_end hk ?_)<;>(clear hk a;intro a hk))|((first|refine wx3 ?_;intro w b|refine wx4 ?_;intro w|refine wx5 ?_;intro w v);clear hk hS a;intro hS a hk)|refine wx0 ?_|fail))
   refine sg hk (g_callvO (first := []) (cap := []) hk (hf := hf) (hc := hcall _ (hS.rdSr hTr) (hS.rdSr hTu)) (h := ?_));clear hk a;rintro _ w2 ⟨rfl, hS1⟩ a hk;replace hS := hS.call0 hS1;clear hS1
   cases hs : samS tk uk with
   | true =>
    rw [hs] at hk
    (repeat' (first|((first|refine wx1 ?_|refine wx2 ?_ ?_<;>intro hp|refine s_end hk ?_)<;>(clear hk a;intro a hk))|((first|refine wx3 ?_;intro w b|refine wx4 ?_;intro w|refine wx5 ?_;intro w v);clear hk hS a;intro hS a hk)|refine wx0 ?_|fail))
    refine ⟨hil, (), hk.sd, hS.sb, fun j t u hj ht hu => ?_⟩
    by_cases e : j = i
    ·subst e
     rw [htk] at ht
     rw [huk] at hu
     cases ht
     cases hu
     exact hs
    ·exact hEq j t u (by omega) ht hu
   | false =>
    rw [hs] at hk
    (repeat' (first|((first|refine wx1 ?_|refine wx2 ?_ ?_<;>intro hp|refine s_end hk ?_)<;>(clear hk a;intro a hk))|((first|refine wx3 ?_;intro w b|refine wx4 ?_;intro w|refine wx5 ?_;intro w v);clear hk hS a;intro hS a hk)|refine wx0 ?_|fail))
    have : samSL ts us = false := by
     cases h : samSL ts us with
     | false => rfl
     | true => have := (hiff.1 h).2 i tk uk htk huk;rw [hs] at this;cases this
    exact done1 hk (h := ⟨by rw [this], hS.nil⟩)
  ·have : i = H.length := by omega
   subst this
   (repeat' (first|((first|refine wx1 ?_|refine wx2 ?_ ?_<;>intro hp|refine s_end hk ?_)<;>(clear hk a;intro a hk))|((first|refine wx3 ?_;intro w b|refine wx4 ?_;intro w|refine wx5 ?_;intro w v);clear hk hS a;intro hS a hk)|refine wx0 ?_|fail))
   exact done1 hk (h := ⟨by rw [hiff.2 ⟨by omega, fun j t u ht hu => hEq j t u (by have := lt_of_get ht;omega) ht hu⟩], hS.nil⟩)
 ·(repeat' (first|((first|refine wx1 ?_|refine wx2 ?_ ?_<;>intro hp|refine s_end hk ?_)<;>(clear hk a;intro a hk))|((first|refine wx3 ?_;intro w b|refine wx4 ?_;intro w|refine wx5 ?_;intro w v);clear hk hS a;intro hS a hk)|refine wx0 ?_|fail))
  have : samSL ts us = false := by
   cases h : samSL ts us with
   | false => rfl
   | true => have := (hiff.1 h).1;omega
  exact done1 hk (h := ⟨by rw [this], hS.nil⟩)
abbrev treeV (id k : Int) (tag text : ByteArray) (a1 : Option Addr) (n1 m1 : Nat) (a2 : Option Addr) (n2 m2 : Nat) (a3 : Option Addr) (n3 m3 : Nat) (a4 : Option Addr) (n4 m4 : Nat) : Value :=
 .agg #[.int .i64 id, .int .i64 k, .string tag, .string text, .slice a1 n1 m1, .slice a2 n2 m2, .slice a3 n3 m3, .slice a4 n4 m4]
set_option maxHeartbeats 8000000 in
theorem same9_any : ∀ (n : Nat) (t u : STree) (h g : SnH) (w0 : World), SizeOf.sizeOf t < n → SFits t → SFits u → SrR w0 t h → SrR w0 u g → Calls Tryz.prog 14 #[snV h, snV g] w0 (Ret fun v w => v = .bool (samS t u) ∧ St w0 [] w)
 | 0, _, _, _, _, _, hn, _, _, _, _ => by omega
 | n + 1, t, u, h, g, w0, hn, hf, hf', hr, hr' => by
  have ih := same9_any n
  obtain ⟨id, k, tag, text, cl, al, sl, kids, a1, m1, a2, m2, a3, m3, a4, m4, H, rfl, rfl, c1, c2, c3, c4, hF⟩ := hr.split
  obtain ⟨id', k', tag', text', cl', al', sl', kids', b1', n1, b2', n2, b3', n3, b4', n4, G, rfl, rfl, g1, g2, g3, g4, hG⟩ := hr'.split
  obtain ⟨l1, l2, l3, l4, l5⟩ := hf
  obtain ⟨l1', l2', l3', l4', l5'⟩ := hf'
  show Calls Tryz.prog 14 #[treeV id k tag text a1 cl.length m1 a2 al.length m2 a3 sl.length m3 a4 H.length m4, treeV id' k' tag' text' b1' cl'.length n1 b2' al'.length n2 b3' sl'.length n3 b4' G.length n4] w0 _
  have hiff := samS_iff (id := id) (id' := id') (k := k) (k' := k') (tag := tag) (tag' := tag') (text := text) (text' := text') (cl := cl) (cl' := cl') (al := al) (al' := al') (sl := sl) (sl' := sl') (kids := kids) (kids' := kids')
  have hcs := fun w0 h1 h2 => cSame_any cl cl' (.slice a1 cl.length m1) (.slice b1' cl'.length n1) w0 h1 h2 (by omega)
  have hss := fun w0 h1 h2 => sameS_any al al' (.slice a2 al.length m2) (.slice b2' al'.length n2) w0 h1 h2 (by omega) (by omega)
  have hii := fun w0 h1 h2 => sameI_any sl sl' (.slice a3 sl.length m3) (.slice b3' sl'.length n3) w0 h1 h2 (by omega) (by omega)
  have hee := fun w0 h1 h2 h3 h4 => eqFunc9_any 14 (by kernel_rfl) kids kids' H G (.slice a4 H.length m4) (.slice b4' G.length n4) w0 h1 h2 h3 h4 l4
   (fun i t t' hd gd w ht ht' h1 h2 => ih t t' hd gd w (by have := skid_lt (id := id) (k := k) (tag := tag) (text := text) (cl := cl) (at_ := al) (st := sl) (List.mem_of_getElem? ht);omega) (l5 t (List.mem_of_getElem? ht)) (l5' t' (List.mem_of_getElem? ht')) h1 h2)
  refine enter Tryz.func14 rfl Tryz.ntmps14 rfl (fun a hk => ?_);have hS := St.refl w0
  (repeat' (first|((first|refine wx1 ?_|refine wx2 ?_ ?_<;>intro hp|refine s_end hk ?_)<;>(clear hk a;intro a hk))|((first|refine wx3 ?_;intro w b|refine wx4 ?_;intro w|refine wx5 ?_;intro w v);clear hk hS a;intro hS a hk)|refine wx0 ?_|fail))
  rotate_left
  all_goals try (
   refine done1 hk (h := ⟨congrArg Value.bool (samS_false fun hh => ?_).symm, hS.nil⟩)
   obtain ⟨⟨q1, q2, q3, q4, q5, q6⟩, q9⟩ := hiff.1 hh
   first
    | exact absurd q1 (by assumption)
    | exact absurd q2 (by assumption)
    | exact absurd q3 (by assumption))
  have hb1 : k = k' := by assumption
  have hb2 : tag = tag' := by assumption
  have hb4 : text = text' := by assumption
  by_cases hcl : cl = cl'
  ·rw [decide_eq_true hcl] at hcs
   refine sg hk (g_callO hk (hf := by kernel_rfl) (hc := hcs _ (hS.rdT c1) (hS.rdT g1)) (h := ?_));clear hk a;rintro _ w ⟨rfl, hS1⟩ a hk;replace hS := hS.call0 hS1;clear hS1
   (repeat' (first|((first|refine wx1 ?_|refine wx2 ?_ ?_<;>intro hp|refine s_end hk ?_)<;>(clear hk a;intro a hk))|((first|refine wx3 ?_;intro w b|refine wx4 ?_;intro w|refine wx5 ?_;intro w v);clear hk hS a;intro hS a hk)|refine wx0 ?_|fail))
   by_cases hal : snapF nmS al = snapF nmS al'
   ·rw [decide_eq_true hal] at hss
    refine sg hk (g_callO hk (hf := by kernel_rfl) (hc := hss _ (hS.rdT c2) (hS.rdT g2)) (h := ?_));clear hk a;rintro _ w ⟨rfl, hS1⟩ a hk;replace hS := hS.call0 hS1;clear hS1
    (repeat' (first|((first|refine wx1 ?_|refine wx2 ?_ ?_<;>intro hp|refine s_end hk ?_)<;>(clear hk a;intro a hk))|((first|refine wx3 ?_;intro w b|refine wx4 ?_;intro w|refine wx5 ?_;intro w v);clear hk hS a;intro hS a hk)|refine wx0 ?_|fail))
    by_cases hsl : snapF nmI sl = snapF nmI sl'
    ·rw [decide_eq_true hsl] at hii
     refine sg hk (g_callO hk (hf := by kernel_rfl) (hc := hii _ (hS.rdT c3) (hS.rdT g3)) (h := ?_));clear hk a;rintro _ w ⟨rfl, hS1⟩ a hk;replace hS := hS.call0 hS1;clear hS1
     (repeat' (first|((first|refine wx1 ?_|refine wx2 ?_ ?_<;>intro hp|refine s_end hk ?_)<;>(clear hk a;intro a hk))|((first|refine wx3 ?_;intro w b|refine wx4 ?_;intro w|refine wx5 ?_;intro w v);clear hk hS a;intro hS a hk)|refine wx0 ?_|fail))
     refine sg hk (g_callO hk (hf := by kernel_rfl) (hc := hee _ (hS.rdT c4) (hS.rdT g4) (hS.rdSo hF) (hS.rdSo hG)) (h := ?_));clear hk a;rintro _ w ⟨rfl, hS1⟩ a hk;replace hS := hS.call0 hS1;clear hS1
     (repeat' (first|((first|refine wx1 ?_|refine wx2 ?_ ?_<;>intro hp|refine s_end hk ?_)<;>(clear hk a;intro a hk))|((first|refine wx3 ?_;intro w b|refine wx4 ?_;intro w|refine wx5 ?_;intro w v);clear hk hS a;intro hS a hk)|refine wx0 ?_|fail))
     refine done1 hk (h := ⟨congrArg Value.bool ?_, hS.nil⟩)
     cases hL : samSL kids kids' with
     | true => exact (hiff.2 ⟨⟨hb1, hb2, hb4, hcl, hal, hsl⟩, hL⟩).symm
     | false => exact (samS_false fun hh => by have := (hiff.1 hh).2;rw [hL] at this;cases this).symm
    ·rw [decide_eq_false hsl] at hii
     refine sg hk (g_callO hk (hf := by kernel_rfl) (hc := hii _ (hS.rdT c3) (hS.rdT g3)) (h := ?_));clear hk a;rintro _ w ⟨rfl, hS1⟩ a hk;replace hS := hS.call0 hS1;clear hS1
     (repeat' (first|((first|refine wx1 ?_|refine wx2 ?_ ?_<;>intro hp|refine s_end hk ?_)<;>(clear hk a;intro a hk))|((first|refine wx3 ?_;intro w b|refine wx4 ?_;intro w|refine wx5 ?_;intro w v);clear hk hS a;intro hS a hk)|refine wx0 ?_|fail))
     exact done1 hk (h := ⟨congrArg Value.bool (samS_false fun hh => hsl (hiff.1 hh).1.2.2.2.2.2).symm, hS.nil⟩)
   ·rw [decide_eq_false hal] at hss
    refine sg hk (g_callO hk (hf := by kernel_rfl) (hc := hss _ (hS.rdT c2) (hS.rdT g2)) (h := ?_));clear hk a;rintro _ w ⟨rfl, hS1⟩ a hk;replace hS := hS.call0 hS1;clear hS1
    (repeat' (first|((first|refine wx1 ?_|refine wx2 ?_ ?_<;>intro hp|refine s_end hk ?_)<;>(clear hk a;intro a hk))|((first|refine wx3 ?_;intro w b|refine wx4 ?_;intro w|refine wx5 ?_;intro w v);clear hk hS a;intro hS a hk)|refine wx0 ?_|fail))
    exact done1 hk (h := ⟨congrArg Value.bool (samS_false fun hh => hal (hiff.1 hh).1.2.2.2.2.1).symm, hS.nil⟩)
  ·rw [decide_eq_false hcl] at hcs
   refine sg hk (g_callO hk (hf := by kernel_rfl) (hc := hcs _ (hS.rdT c1) (hS.rdT g1)) (h := ?_));clear hk a;rintro _ w ⟨rfl, hS1⟩ a hk;replace hS := hS.call0 hS1;clear hS1
   (repeat' (first|((first|refine wx1 ?_|refine wx2 ?_ ?_<;>intro hp|refine s_end hk ?_)<;>(clear hk a;intro a hk))|((first|refine wx3 ?_;intro w b|refine wx4 ?_;intro w|refine wx5 ?_;intro w v);clear hk hS a;intro hS a hk)|refine wx0 ?_|fail))
   exact done1 hk (h := ⟨congrArg Value.bool (samS_false fun hh => hcl (hiff.1 hh).1.2.2.2.1).symm, hS.nil⟩)
end Go.Proofs.YtgklceoodpocaaaGreatDoor
