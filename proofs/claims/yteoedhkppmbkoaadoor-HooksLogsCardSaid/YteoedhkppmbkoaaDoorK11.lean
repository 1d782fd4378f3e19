/- Layer 19: a log's text. Layer 19: a log may be just if what is told of each kid may be: the law. From the form's reading of plain arguments to what they are. -/
import Derived.Test.YteoedhkppmbkoaaDoorK10
import Derived.Test.YteoedhkppmbkoaaDoorK09
import Derived.Test.YteoedhkppmbkoaaDoorK08
import Derived.Test.YteoedhkppmbkoaaDoorK06
namespace Go.Proofs.YteoedhkppmbkoaaDoor
open Go.RowKit
set_option maxRecDepth 100000
attribute [local irreducible] Go.Code.wpIn Go.wpListIn Go.Calls Gives Go.Exit.then Go.Exit.inBlock Done ObxE

set_option maxHeartbeats 4000000 in
theorem text19_any (g nd ho : Int) (key : ByteArray) (he : okE64 (g, nd, ho, key)) (w0 : World) (hN : NamesIn w0) (ht : TabW w0) : Calls Tryd.prog 55 #[.agg #[.int .i64 g, .int .i64 nd, .int .i64 ho, .string key]] w0 (Ret fun v w => v = .string (lineS (g, nd, ho, key)) ∧ St w0 [] w) := by
  obtain ⟨h1, h2, h3, h4⟩ := he
  simp only at h1 h2 h3 h4
  have s1 := ito_size h1.1 h1.2
  have s2 := ito_size h2.1 h2.2
  have s3 := ito_size h3.1 h3.2
  have s4 := nameF_size ho
  refine enter Tryd.func55 rfl Tryd.ntmps55 rfl (fun a hk => ?_); have hS := St.refl w0
  (repeat' (first | (show wpListIn _ _ _ _ _ (_ :: _) _ _; first | (refine wx1 ?_; clear hk a; intro a hk) | (refine wx2 ?_ ?_ <;> (intro hp; clear hk a; intro a hk)) | (refine wx3 ?_; clear hk hS a; intro w b hS a hk) | (refine wx4 ?_; clear hk hS a; intro w hS a hk) | (refine wx5 ?_; clear hk hS a; intro w v hS a hk) | fail) | refine wx0 ?_ | (refine s_end hk ?_; clear hk a; intro a hk) | fail))
  refine sg hk (g_callO hk (hf := by kernel_rfl) (hc := name_any ho _ (hS.names hN)) (h := ?_)); clear hk a; rintro _ w ⟨rfl, hS1⟩ a hk; replace hS := hS.call0 hS1; clear hS1
  by_cases hn : nameF ho = ⟨#[]⟩
  · (repeat' (first | (show wpListIn _ _ _ _ _ (_ :: _) _ _; first | (refine wx1 ?_; clear hk a; intro a hk) | (refine wx2 ?_ ?_ <;> (intro hp; clear hk a; intro a hk)) | (refine wx3 ?_; clear hk hS a; intro w b hS a hk) | (refine wx4 ?_; clear hk hS a; intro w hS a hk) | (refine wx5 ?_; clear hk hS a; intro w v hS a hk) | fail) | refine wx0 ?_ | (refine s_end hk ?_; clear hk a; intro a hk) | fail))
    refine sg hk (g_callO hk (hf := by kernel_rfl) (hc := itoa_any ho h3.1 h3.2 _ (ht.mono hS.below)) (h := ?_)); clear hk a; rintro _ w ⟨rfl, hS1⟩ a hk; replace hS := hS.call0 hS1; clear hS1
    (repeat' (first | (show wpListIn _ _ _ _ _ (_ :: _) _ _; first | (refine wx1 ?_; clear hk a; intro a hk) | (refine wx2 ?_ ?_ <;> (intro hp; clear hk a; intro a hk)) | (refine wx3 ?_; clear hk hS a; intro w b hS a hk) | (refine wx4 ?_; clear hk hS a; intro w hS a hk) | (refine wx5 ?_; clear hk hS a; intro w v hS a hk) | fail) | refine wx0 ?_ | (refine s_end hk ?_; clear hk a; intro a hk) | fail))
    have hsz : ∀ s ∈ [itoS g, key, itoS nd, itoS ho], s.size ≤ 10000 := by
      intro s hs
      simp only [List.mem_cons, List.not_mem_nil, or_false] at hs
      rcases hs with rfl | rfl | rfl | rfl <;> omega
    refine wp_drawn 12 mixed (by kernel_rfl) hk hS ?_; clear hk hS a
    (repeat' (first | (show ObxE _ _ _ _ _ _ _ _ _ (_ :: _) _ _ _; first | refine ox1 ?_ | (refine ox2 ?_ ?_ <;> intro hp) | fail) | fail))
    refine' obe_val (fun us a w hk hd hS => ?_) ?_; rotate_left; focus (have hk := Kn.vw hk (by repeat (first | exact VW.nil | apply VW.val rfl | apply VW.base rfl rfl | apply VW.res rfl | apply VW.upd rfl | apply VW.cpy rfl | apply VW.dep rfl | apply VW.fn rfl | apply VW.lnd rfl | apply VW.tak rfl)); exact g_callO hk (hf := by kernel_rfl) (hc := itoa_any g h1.1 h1.2 _ (ht.mono hS.below)) (h := fun _ _ h => h))
    (repeat' (first | (show ObxE _ _ _ _ _ _ _ _ _ (_ :: _) _ _ _; first | refine ox1 ?_ | (refine ox2 ?_ ?_ <;> intro hp) | fail) | fail))
    refine' obe_val (fun us a w hk hd hS => ?_) ?_; rotate_left; focus (have hk := Kn.vw hk (by repeat (first | exact VW.nil | apply VW.val rfl | apply VW.base rfl rfl | apply VW.res rfl | apply VW.upd rfl | apply VW.cpy rfl | apply VW.dep rfl | apply VW.fn rfl | apply VW.lnd rfl | apply VW.tak rfl)); exact g_callO hk (hf := by kernel_rfl) (hc := itoa_any nd h2.1 h2.2 _ (ht.mono hS.below)) (h := fun _ _ h => h))
    (repeat' (first | (show ObxE _ _ _ _ _ _ _ _ _ (_ :: _) _ _ _; first | refine ox1 ?_ | (refine ox2 ?_ ?_ <;> intro hp) | fail) | fail))
    refine' obe_res (fun us a w hk hd hS => ?_) ?_; rotate_left; focus (have hk := Kn.vw hk (by repeat (first | exact VW.nil | apply VW.val rfl | apply VW.base rfl rfl | apply VW.res rfl | apply VW.upd rfl | apply VW.cpy rfl | apply VW.dep rfl | apply VW.fn rfl | apply VW.lnd rfl | apply VW.tak rfl)); exact v_bsT (xs := [itoS g, key, itoS nd, itoS ho]) (m := 3) hk (hT := eT rfl) (hE := zT rfl) (hz := oT rfl))
    refine' obe_val (c := .string ⟨(joinL [itoS g, key, itoS nd, itoS ho]).toArray⟩) (fun us a w hk hd hS => ?_) ?_
    · have hk := Kn.vw hk (by repeat (first | exact VW.nil | apply VW.val rfl | apply VW.base rfl rfl | apply VW.res rfl | apply VW.upd rfl | apply VW.cpy rfl | apply VW.dep rfl | apply VW.fn rfl | apply VW.lnd rfl | apply VW.tak rfl))
      exact g_callO hk (hf := by kernel_rfl) (hc := join_any (itoS g) key [itoS nd, itoS ho] (by simp) hsz _ _ (OwT.rd hd.1)) (h := fun _ _ h => h)
    refine' obe_val (fun us a w hk hd hS => ?_) ?_; rotate_left; focus (have hk := Kn.vw hk (by repeat (first | exact VW.nil | apply VW.val rfl | apply VW.base rfl rfl | apply VW.res rfl | apply VW.upd rfl | apply VW.cpy rfl | apply VW.dep rfl | apply VW.fn rfl | apply VW.lnd rfl | apply VW.tak rfl)); exact g_cat (s := ⟨(joinL [itoS g, key, itoS nd, itoS ho]).toArray⟩) (r := ⟨#[10]⟩) hk (same _ _) (hl := by simp only [ByteArray.size_append, maxLen, sz32, sz10, join4_size]; omega))
    refine obe_nil ⟨rfl, ?_⟩; intro us a w hk hS
    (repeat' (first | (show wpListIn _ _ _ _ _ (_ :: _) _ _; first | (refine wx1 ?_; clear hk a; intro a hk) | (refine wx2 ?_ ?_ <;> (intro hp; clear hk a; intro a hk)) | (refine wx3 ?_; clear hk hS a; intro w b hS a hk) | (refine wx4 ?_; clear hk hS a; intro w hS a hk) | (refine wx5 ?_; clear hk hS a; intro w v hS a hk) | fail) | refine wx0 ?_ | (refine s_end hk ?_; clear hk a; intro a hk) | fail))
    exact done1 hk (h := ⟨by rw [line_join, lineS, nmE, if_pos hn]; rfl, hS.nil⟩)
  · (repeat' (first | (show wpListIn _ _ _ _ _ (_ :: _) _ _; first | (refine wx1 ?_; clear hk a; intro a hk) | (refine wx2 ?_ ?_ <;> (intro hp; clear hk a; intro a hk)) | (refine wx3 ?_; clear hk hS a; intro w b hS a hk) | (refine wx4 ?_; clear hk hS a; intro w hS a hk) | (refine wx5 ?_; clear hk hS a; intro w v hS a hk) | fail) | refine wx0 ?_ | (refine s_end hk ?_; clear hk a; intro a hk) | fail))
    have hsz : ∀ s ∈ [itoS g, key, itoS nd, nameF ho], s.size ≤ 10000 := by
      intro s hs
      simp only [List.mem_cons, List.not_mem_nil, or_false] at hs
      rcases hs with rfl | rfl | rfl | rfl <;> omega
    refine wp_drawn 12 mixed (by kernel_rfl) hk hS ?_; clear hk hS a
    (repeat' (first | (show ObxE _ _ _ _ _ _ _ _ _ (_ :: _) _ _ _; first | refine ox1 ?_ | (refine ox2 ?_ ?_ <;> intro hp) | fail) | fail))
    refine' obe_val (fun us a w hk hd hS => ?_) ?_; rotate_left; focus (have hk := Kn.vw hk (by repeat (first | exact VW.nil | apply VW.val rfl | apply VW.base rfl rfl | apply VW.res rfl | apply VW.upd rfl | apply VW.cpy rfl | apply VW.dep rfl | apply VW.fn rfl | apply VW.lnd rfl | apply VW.tak rfl)); exact g_callO hk (hf := by kernel_rfl) (hc := itoa_any g h1.1 h1.2 _ (ht.mono hS.below)) (h := fun _ _ h => h))
    (repeat' (first | (show ObxE _ _ _ _ _ _ _ _ _ (_ :: _) _ _ _; first | refine ox1 ?_ | (refine ox2 ?_ ?_ <;> intro hp) | fail) | fail))
    refine' obe_val (fun us a w hk hd hS => ?_) ?_; rotate_left; focus (have hk := Kn.vw hk (by repeat (first | exact VW.nil | apply VW.val rfl | apply VW.base rfl rfl | apply VW.res rfl | apply VW.upd rfl | apply VW.cpy rfl | apply VW.dep rfl | apply VW.fn rfl | apply VW.lnd rfl | apply VW.tak rfl)); exact g_callO hk (hf := by kernel_rfl) (hc := itoa_any nd h2.1 h2.2 _ (ht.mono hS.below)) (h := fun _ _ h => h))
    (repeat' (first | (show ObxE _ _ _ _ _ _ _ _ _ (_ :: _) _ _ _; first | refine ox1 ?_ | (refine ox2 ?_ ?_ <;> intro hp) | fail) | fail))
    refine' obe_res (fun us a w hk hd hS => ?_) ?_; rotate_left; focus (have hk := Kn.vw hk (by repeat (first | exact VW.nil | apply VW.val rfl | apply VW.base rfl rfl | apply VW.res rfl | apply VW.upd rfl | apply VW.cpy rfl | apply VW.dep rfl | apply VW.fn rfl | apply VW.lnd rfl | apply VW.tak rfl)); exact v_bsT (xs := [itoS g, key, itoS nd, nameF ho]) (m := 3) hk (hT := eT rfl) (hE := zT rfl) (hz := oT rfl))
    refine' obe_val (c := .string ⟨(joinL [itoS g, key, itoS nd, nameF ho]).toArray⟩) (fun us a w hk hd hS => ?_) ?_
    · have hk := Kn.vw hk (by repeat (first | exact VW.nil | apply VW.val rfl | apply VW.base rfl rfl | apply VW.res rfl | apply VW.upd rfl | apply VW.cpy rfl | apply VW.dep rfl | apply VW.fn rfl | apply VW.lnd rfl | apply VW.tak rfl))
      exact g_callO hk (hf := by kernel_rfl) (hc := join_any (itoS g) key [itoS nd, nameF ho] (by simp) hsz _ _ (OwT.rd hd.1)) (h := fun _ _ h => h)
    refine' obe_val (fun us a w hk hd hS => ?_) ?_; rotate_left; focus (have hk := Kn.vw hk (by repeat (first | exact VW.nil | apply VW.val rfl | apply VW.base rfl rfl | apply VW.res rfl | apply VW.upd rfl | apply VW.cpy rfl | apply VW.dep rfl | apply VW.fn rfl | apply VW.lnd rfl | apply VW.tak rfl)); exact g_cat (s := ⟨(joinL [itoS g, key, itoS nd, nameF ho]).toArray⟩) (r := ⟨#[10]⟩) hk (same _ _) (hl := by simp only [ByteArray.size_append, maxLen, sz32, sz10, join4_size]; omega))
    refine obe_nil ⟨rfl, ?_⟩; intro us a w hk hS
    (repeat' (first | (show wpListIn _ _ _ _ _ (_ :: _) _ _; first | (refine wx1 ?_; clear hk a; intro a hk) | (refine wx2 ?_ ?_ <;> (intro hp; clear hk a; intro a hk)) | (refine wx3 ?_; clear hk hS a; intro w b hS a hk) | (refine wx4 ?_; clear hk hS a; intro w hS a hk) | (refine wx5 ?_; clear hk hS a; intro w v hS a hk) | fail) | refine wx0 ?_ | (refine s_end hk ?_; clear hk a; intro a hk) | fail))
    exact done1 hk (h := ⟨by rw [line_join, lineS, nmE, if_neg hn]; rfl, hS.nil⟩)
set_option maxHeartbeats 4000000 in
theorem logText_any (l : List Ent) (hl : l.length ≤ 1000) (hok : ∀ e ∈ l, okE64 e) (v : Value) (w0 : World) (hN : NamesIn w0) (ht : TabW w0) (hv : SlT l v w0) : Calls Tryd.prog 25 #[v] w0 (Ret fun v w => v = .string (textF l) ∧ St w0 [] w) := by
  refine enter Tryd.func25 rfl Tryd.ntmps25 rfl (fun a hk => ?_); have hS := St.refl w0
  (repeat' (first | (show wpListIn _ _ _ _ _ (_ :: _) _ _; first | (refine wx1 ?_; clear hk a; intro a hk) | (refine wx2 ?_ ?_ <;> (intro hp; clear hk a; intro a hk)) | (refine wx3 ?_; clear hk hS a; intro w b hS a hk) | (refine wx4 ?_; clear hk hS a; intro w hS a hk) | (refine wx5 ?_; clear hk hS a; intro w v hS a hk) | fail) | refine wx0 ?_ | (refine s_end hk ?_; clear hk a; intro a hk) | fail))
  replace hk := Kn.kp [3, 6, 7, 8] hk
  replace hS := St.bldNew (e := bldE) hS
  refine wp_for l.length (fun i _ => [(8, .int .i64 (i : Int))]) (fun i _ => [blH bldT bldE b (textF (l.take i)).data.toList]) (fun _ _ => True) () hk (by repeat (first | exact trivial | refine ⟨rfl, ?_⟩)) hS.sb trivial ?_
  clear hk hS a
  rintro i - a w hi hk hS -
  have hts := text_size (l.take i) (fun e he => hok e (List.mem_of_mem_take he))
  have htl : (textF (l.take i)).data.toList.length = (textF (l.take i)).size := Array.length_toList
  rw [List.length_take] at hts
  by_cases hil : i < l.length
  · obtain ⟨⟨g, nd, ho, key⟩, hx⟩ : ∃ x, l[i]? = some x := ⟨_, List.getElem?_eq_getElem hil⟩
    have hoke := hok _ (List.mem_of_getElem? hx)
    have hls := line_size hoke
    have hst : (textF (l.take i)).data.toList ++ (lineS (g, nd, ho, key)).data.toList = (textF (l.take (i + 1))).data.toList := by rw [take_snoc hx, textF_snoc, app_list]
    (repeat' (first | (show wpListIn _ _ _ _ _ (_ :: _) _ _; first | (refine wx1 ?_; clear hk a; intro a hk) | (refine wx2 ?_ ?_ <;> (intro hp; clear hk a; intro a hk)) | (refine wx3 ?_; clear hk hS a; intro w b hS a hk) | (refine wx4 ?_; clear hk hS a; intro w hS a hk) | (refine wx5 ?_; clear hk hS a; intro w v hS a hk) | fail) | refine wx0 ?_ | (refine s_end hk ?_; clear hk a; intro a hk) | fail))
    refine sg hk (g_callO hk (hf := by kernel_rfl) (hc := text19_any g nd ho key hoke _ (hS.names hN) (ht.mono hS.below)) (h := ?_)); clear hk a; rintro _ w ⟨rfl, hS1⟩ a hk; replace hS := hS.call0 hS1; clear hS1
    refine sg hk (g_callO hk (hf := by kernel_rfl) (hc := writeB_any (l := (textF (l.take i)).data.toList) (lineS (g, nd, ho, key)) hS (by omega)) (h := ?_)); clear hk hS a; rintro _ w ⟨rfl, hS⟩ a hk
    rw [hst] at hS
    (repeat' (first | (show wpListIn _ _ _ _ _ (_ :: _) _ _; first | (refine wx1 ?_; clear hk a; intro a hk) | (refine wx2 ?_ ?_ <;> (intro hp; clear hk a; intro a hk)) | (refine wx3 ?_; clear hk hS a; intro w b hS a hk) | (refine wx4 ?_; clear hk hS a; intro w hS a hk) | (refine wx5 ?_; clear hk hS a; intro w v hS a hk) | fail) | refine wx0 ?_ | (refine s_end hk ?_; clear hk a; intro a hk) | fail))
    exact ⟨hil, (), hk.sd, hS.sb, trivial⟩
  · have hii : i = l.length := by omega
    subst hii
    rw [List.take_length] at hS
    (repeat' (first | (show wpListIn _ _ _ _ _ (_ :: _) _ _; first | (refine wx1 ?_; clear hk a; intro a hk) | (refine wx2 ?_ ?_ <;> (intro hp; clear hk a; intro a hk)) | (refine wx3 ?_; clear hk hS a; intro w b hS a hk) | (refine wx4 ?_; clear hk hS a; intro w hS a hk) | (refine wx5 ?_; clear hk hS a; intro w v hS a hk) | fail) | refine wx0 ?_ | (refine s_end hk ?_; clear hk a; intro a hk) | fail))
    refine sg hk (g_callO hk (hf := by kernel_rfl) (hc := stringB_any (l := (textF l).data.toList) hS) (h := ?_)); clear hk hS a; rintro _ w ⟨rfl, hS⟩ a hk
    (repeat' (first | (show wpListIn _ _ _ _ _ (_ :: _) _ _; first | (refine wx1 ?_; clear hk a; intro a hk) | (refine wx2 ?_ ?_ <;> (intro hp; clear hk a; intro a hk)) | (refine wx3 ?_; clear hk hS a; intro w b hS a hk) | (refine wx4 ?_; clear hk hS a; intro w hS a hk) | (refine wx5 ?_; clear hk hS a; intro w v hS a hk) | fail) | refine wx0 ?_ | (refine s_end hk ?_; clear hk a; intro a hk) | fail))
    exact done1 hk (h := ⟨by rw [ba_eta], hS.nil⟩)
set_option maxHeartbeats 4000000 in
theorem refText_any (l : List Ent) (hl : l.length ≤ 1000) (hok : ∀ e ∈ l, okE64 e) (v : Value) (w0 : World) (ht : TabW w0) (hv : SlT l v w0) : Calls Tryd.prog 26 #[v] w0 (Ret fun v w => v = .string (textF l) ∧ St w0 [] w) := by
  have hm := hv.len_le
  simp only [maxLen] at hm
  refine enter Tryd.func26 rfl Tryd.ntmps26 rfl (fun a hk => ?_); have hS := St.refl w0
  (repeat' (first | (show wpListIn _ _ _ _ _ (_ :: _) _ _; first | (refine wx1 ?_; clear hk a; intro a hk) | (refine wx2 ?_ ?_ <;> (intro hp; clear hk a; intro a hk)) | (refine wx3 ?_; clear hk hS a; intro w b hS a hk) | (refine wx4 ?_; clear hk hS a; intro w hS a hk) | (refine wx5 ?_; clear hk hS a; intro w v hS a hk) | fail) | refine wx0 ?_ | (refine s_end hk ?_; clear hk a; intro a hk) | fail))
  replace hk := Kn.kp [3, 7, 8, 9] hk
  refine wp_for l.length (fun i _ => [(3, .string (textF (l.take i))), (9, .int .i64 (i : Int))]) (fun _ _ => []) (fun _ _ => True) () hk (by repeat (first | exact trivial | refine ⟨rfl, ?_⟩)) hS.sb trivial ?_
  clear hk hS a
  rintro i - a w hi hk hS -
  by_cases hil : i < l.length
  · obtain ⟨⟨g, nd, ho, key⟩, hx⟩ : ∃ x, l[i]? = some x := ⟨_, List.getElem?_eq_getElem hil⟩
    obtain ⟨h1, h2, h3, h4⟩ := hok _ (List.mem_of_getElem? hx)
    simp only at h1 h2 h3 h4
    have hst : textF (l.take (i + 1)) = textF (l.take i) ++ lineS (g, nd, ho, key) := by rw [take_snoc hx, textF_snoc]
    have s1 := ito_size h1.1 h1.2
    have s2 := ito_size h2.1 h2.2
    have s3 := ito_size h3.1 h3.2
    have s4 := nameF_size ho
    have hts := text_size (l.take i) (fun e he => hok e (List.mem_of_mem_take he))
    rw [List.length_take] at hts
    (repeat' (first | (show wpListIn _ _ _ _ _ (_ :: _) _ _; first | (refine wx1 ?_; clear hk a; intro a hk) | (refine wx2 ?_ ?_ <;> (intro hp; clear hk a; intro a hk)) | (refine wx3 ?_; clear hk hS a; intro w b hS a hk) | (refine wx4 ?_; clear hk hS a; intro w hS a hk) | (refine wx5 ?_; clear hk hS a; intro w v hS a hk) | fail) | refine wx0 ?_ | (refine s_end hk ?_; clear hk a; intro a hk) | fail))
    refine sg hk (g_callO hk (hf := by kernel_rfl) (hc := refName_any ho _) (h := ?_)); clear hk a; rintro _ w ⟨rfl, hS1⟩ a hk; replace hS := hS.call0 hS1; clear hS1
    by_cases hn : nameF ho = ⟨#[]⟩
    · (repeat' (first | (show wpListIn _ _ _ _ _ (_ :: _) _ _; first | (refine wx1 ?_; clear hk a; intro a hk) | (refine wx2 ?_ ?_ <;> (intro hp; clear hk a; intro a hk)) | (refine wx3 ?_; clear hk hS a; intro w b hS a hk) | (refine wx4 ?_; clear hk hS a; intro w hS a hk) | (refine wx5 ?_; clear hk hS a; intro w v hS a hk) | fail) | refine wx0 ?_ | (refine s_end hk ?_; clear hk a; intro a hk) | fail))
      refine sg hk (g_callO hk (hf := by kernel_rfl) (hc := itoa_any ho h3.1 h3.2 _ (ht.mono hS.below)) (h := ?_)); clear hk a; rintro _ w ⟨rfl, hS1⟩ a hk; replace hS := hS.call0 hS1; clear hS1
      (repeat' (first | (show wpListIn _ _ _ _ _ (_ :: _) _ _; first | (refine wx1 ?_; clear hk a; intro a hk) | (refine wx2 ?_ ?_ <;> (intro hp; clear hk a; intro a hk)) | (refine wx3 ?_; clear hk hS a; intro w b hS a hk) | (refine wx4 ?_; clear hk hS a; intro w hS a hk) | (refine wx5 ?_; clear hk hS a; intro w v hS a hk) | fail) | refine wx0 ?_ | (refine s_end hk ?_; clear hk a; intro a hk) | fail))
      refine wp_drawn 18 mixed (by kernel_rfl) hk hS ?_; clear hk hS a
      (repeat' (first | (show ObxE _ _ _ _ _ _ _ _ _ (_ :: _) _ _ _; first | refine ox1 ?_ | (refine ox2 ?_ ?_ <;> intro hp) | fail) | fail))
      refine' obe_val (fun us a w hk hd hS => ?_) ?_; rotate_left; focus (have hk := Kn.vw hk (by repeat (first | exact VW.nil | apply VW.val rfl | apply VW.base rfl rfl | apply VW.res rfl | apply VW.upd rfl | apply VW.cpy rfl | apply VW.dep rfl | apply VW.fn rfl | apply VW.lnd rfl | apply VW.tak rfl)); exact g_callO hk (hf := by kernel_rfl) (hc := itoa_any g h1.1 h1.2 _ (ht.mono hS.below)) (h := fun _ _ h => h))
      refine' obe_val (fun us a w hk hd hS => ?_) ?_; rotate_left; focus (have hk := Kn.vw hk (by repeat (first | exact VW.nil | apply VW.val rfl | apply VW.base rfl rfl | apply VW.res rfl | apply VW.upd rfl | apply VW.cpy rfl | apply VW.dep rfl | apply VW.fn rfl | apply VW.lnd rfl | apply VW.tak rfl)); exact g_cat (s := itoS g) (r := ⟨#[32]⟩) hk (same _ _) (hl := by simp only [ByteArray.size_append, maxLen, sz32, sz10, join4_size]; omega))
      (repeat' (first | (show ObxE _ _ _ _ _ _ _ _ _ (_ :: _) _ _ _; first | refine ox1 ?_ | (refine ox2 ?_ ?_ <;> intro hp) | fail) | fail))
      refine' obe_val (fun us a w hk hd hS => ?_) ?_; rotate_left; focus (have hk := Kn.vw hk (by repeat (first | exact VW.nil | apply VW.val rfl | apply VW.base rfl rfl | apply VW.res rfl | apply VW.upd rfl | apply VW.cpy rfl | apply VW.dep rfl | apply VW.fn rfl | apply VW.lnd rfl | apply VW.tak rfl)); exact g_cat (s := (itoS g ++ ⟨#[32]⟩)) (r := key) hk (same _ _) (hl := by simp only [ByteArray.size_append, maxLen, sz32, sz10, join4_size]; omega))
      refine' obe_val (fun us a w hk hd hS => ?_) ?_; rotate_left; focus (have hk := Kn.vw hk (by repeat (first | exact VW.nil | apply VW.val rfl | apply VW.base rfl rfl | apply VW.res rfl | apply VW.upd rfl | apply VW.cpy rfl | apply VW.dep rfl | apply VW.fn rfl | apply VW.lnd rfl | apply VW.tak rfl)); exact g_cat (s := ((itoS g ++ ⟨#[32]⟩) ++ key)) (r := ⟨#[32]⟩) hk (same _ _) (hl := by simp only [ByteArray.size_append, maxLen, sz32, sz10, join4_size]; omega))
      (repeat' (first | (show ObxE _ _ _ _ _ _ _ _ _ (_ :: _) _ _ _; first | refine ox1 ?_ | (refine ox2 ?_ ?_ <;> intro hp) | fail) | fail))
      refine' obe_val (fun us a w hk hd hS => ?_) ?_; rotate_left; focus (have hk := Kn.vw hk (by repeat (first | exact VW.nil | apply VW.val rfl | apply VW.base rfl rfl | apply VW.res rfl | apply VW.upd rfl | apply VW.cpy rfl | apply VW.dep rfl | apply VW.fn rfl | apply VW.lnd rfl | apply VW.tak rfl)); exact g_callO hk (hf := by kernel_rfl) (hc := itoa_any nd h2.1 h2.2 _ (ht.mono hS.below)) (h := fun _ _ h => h))
      refine' obe_val (fun us a w hk hd hS => ?_) ?_; rotate_left; focus (have hk := Kn.vw hk (by repeat (first | exact VW.nil | apply VW.val rfl | apply VW.base rfl rfl | apply VW.res rfl | apply VW.upd rfl | apply VW.cpy rfl | apply VW.dep rfl | apply VW.fn rfl | apply VW.lnd rfl | apply VW.tak rfl)); exact g_cat (s := (((itoS g ++ ⟨#[32]⟩) ++ key) ++ ⟨#[32]⟩)) (r := itoS nd) hk (same _ _) (hl := by simp only [ByteArray.size_append, maxLen, sz32, sz10, join4_size]; omega))
      refine' obe_val (fun us a w hk hd hS => ?_) ?_; rotate_left; focus (have hk := Kn.vw hk (by repeat (first | exact VW.nil | apply VW.val rfl | apply VW.base rfl rfl | apply VW.res rfl | apply VW.upd rfl | apply VW.cpy rfl | apply VW.dep rfl | apply VW.fn rfl | apply VW.lnd rfl | apply VW.tak rfl)); exact g_cat (s := ((((itoS g ++ ⟨#[32]⟩) ++ key) ++ ⟨#[32]⟩) ++ itoS nd)) (r := ⟨#[32]⟩) hk (same _ _) (hl := by simp only [ByteArray.size_append, maxLen, sz32, sz10, join4_size]; omega))
      (repeat' (first | (show ObxE _ _ _ _ _ _ _ _ _ (_ :: _) _ _ _; first | refine ox1 ?_ | (refine ox2 ?_ ?_ <;> intro hp) | fail) | fail))
      refine' obe_val (fun us a w hk hd hS => ?_) ?_; rotate_left; focus (have hk := Kn.vw hk (by repeat (first | exact VW.nil | apply VW.val rfl | apply VW.base rfl rfl | apply VW.res rfl | apply VW.upd rfl | apply VW.cpy rfl | apply VW.dep rfl | apply VW.fn rfl | apply VW.lnd rfl | apply VW.tak rfl)); exact g_cat (s := (((((itoS g ++ ⟨#[32]⟩) ++ key) ++ ⟨#[32]⟩) ++ itoS nd) ++ ⟨#[32]⟩)) (r := itoS ho) hk (same _ _) (hl := by simp only [ByteArray.size_append, maxLen, sz32, sz10, join4_size]; omega))
      refine' obe_val (fun us a w hk hd hS => ?_) ?_; rotate_left; focus (have hk := Kn.vw hk (by repeat (first | exact VW.nil | apply VW.val rfl | apply VW.base rfl rfl | apply VW.res rfl | apply VW.upd rfl | apply VW.cpy rfl | apply VW.dep rfl | apply VW.fn rfl | apply VW.lnd rfl | apply VW.tak rfl)); exact g_cat (s := ((((((itoS g ++ ⟨#[32]⟩) ++ key) ++ ⟨#[32]⟩) ++ itoS nd) ++ ⟨#[32]⟩) ++ itoS ho)) (r := ⟨#[10]⟩) hk (same _ _) (hl := by simp only [ByteArray.size_append, maxLen, sz32, sz10, join4_size]; omega))
      refine' obe_val (fun us a w hk hd hS => ?_) ?_; rotate_left; focus (have hk := Kn.vw hk (by repeat (first | exact VW.nil | apply VW.val rfl | apply VW.base rfl rfl | apply VW.res rfl | apply VW.upd rfl | apply VW.cpy rfl | apply VW.dep rfl | apply VW.fn rfl | apply VW.lnd rfl | apply VW.tak rfl)); exact g_cat (s := textF (l.take i)) (r := (((((((itoS g ++ ⟨#[32]⟩) ++ key) ++ ⟨#[32]⟩) ++ itoS nd) ++ ⟨#[32]⟩) ++ itoS ho) ++ ⟨#[10]⟩)) hk (same _ _) (hl := by simp only [ByteArray.size_append, maxLen, sz32, sz10, join4_size]; omega))
      refine obe_nil ⟨rfl, ?_⟩; intro us a w hk hS
      (repeat' (first | (show wpListIn _ _ _ _ _ (_ :: _) _ _; first | (refine wx1 ?_; clear hk a; intro a hk) | (refine wx2 ?_ ?_ <;> (intro hp; clear hk a; intro a hk)) | (refine wx3 ?_; clear hk hS a; intro w b hS a hk) | (refine wx4 ?_; clear hk hS a; intro w hS a hk) | (refine wx5 ?_; clear hk hS a; intro w v hS a hk) | fail) | refine wx0 ?_ | (refine s_end hk ?_; clear hk a; intro a hk) | fail))
      have hlx : itoS g ++ ⟨#[32]⟩ ++ key ++ ⟨#[32]⟩ ++ itoS nd ++ ⟨#[32]⟩ ++ itoS ho ++ ⟨#[10]⟩ = lineS (g, nd, ho, key) := by rw [lineS, nmE, if_pos hn]
      rw [hlx, ← hst] at hk
      exact ⟨hil, (), hk.sd, hS.sb, trivial⟩
    · (repeat' (first | (show wpListIn _ _ _ _ _ (_ :: _) _ _; first | (refine wx1 ?_; clear hk a; intro a hk) | (refine wx2 ?_ ?_ <;> (intro hp; clear hk a; intro a hk)) | (refine wx3 ?_; clear hk hS a; intro w b hS a hk) | (refine wx4 ?_; clear hk hS a; intro w hS a hk) | (refine wx5 ?_; clear hk hS a; intro w v hS a hk) | fail) | refine wx0 ?_ | (refine s_end hk ?_; clear hk a; intro a hk) | fail))
      refine wp_drawn 18 mixed (by kernel_rfl) hk hS ?_; clear hk hS a
      (repeat' (first | (show ObxE _ _ _ _ _ _ _ _ _ (_ :: _) _ _ _; first | refine ox1 ?_ | (refine ox2 ?_ ?_ <;> intro hp) | fail) | fail))
      refine' obe_val (fun us a w hk hd hS => ?_) ?_; rotate_left; focus (have hk := Kn.vw hk (by repeat (first | exact VW.nil | apply VW.val rfl | apply VW.base rfl rfl | apply VW.res rfl | apply VW.upd rfl | apply VW.cpy rfl | apply VW.dep rfl | apply VW.fn rfl | apply VW.lnd rfl | apply VW.tak rfl)); exact g_callO hk (hf := by kernel_rfl) (hc := itoa_any g h1.1 h1.2 _ (ht.mono hS.below)) (h := fun _ _ h => h))
      refine' obe_val (fun us a w hk hd hS => ?_) ?_; rotate_left; focus (have hk := Kn.vw hk (by repeat (first | exact VW.nil | apply VW.val rfl | apply VW.base rfl rfl | apply VW.res rfl | apply VW.upd rfl | apply VW.cpy rfl | apply VW.dep rfl | apply VW.fn rfl | apply VW.lnd rfl | apply VW.tak rfl)); exact g_cat (s := itoS g) (r := ⟨#[32]⟩) hk (same _ _) (hl := by simp only [ByteArray.size_append, maxLen, sz32, sz10, join4_size]; omega))
      (repeat' (first | (show ObxE _ _ _ _ _ _ _ _ _ (_ :: _) _ _ _; first | refine ox1 ?_ | (refine ox2 ?_ ?_ <;> intro hp) | fail) | fail))
      refine' obe_val (fun us a w hk hd hS => ?_) ?_; rotate_left; focus (have hk := Kn.vw hk (by repeat (first | exact VW.nil | apply VW.val rfl | apply VW.base rfl rfl | apply VW.res rfl | apply VW.upd rfl | apply VW.cpy rfl | apply VW.dep rfl | apply VW.fn rfl | apply VW.lnd rfl | apply VW.tak rfl)); exact g_cat (s := (itoS g ++ ⟨#[32]⟩)) (r := key) hk (same _ _) (hl := by simp only [ByteArray.size_append, maxLen, sz32, sz10, join4_size]; omega))
      refine' obe_val (fun us a w hk hd hS => ?_) ?_; rotate_left; focus (have hk := Kn.vw hk (by repeat (first | exact VW.nil | apply VW.val rfl | apply VW.base rfl rfl | apply VW.res rfl | apply VW.upd rfl | apply VW.cpy rfl | apply VW.dep rfl | apply VW.fn rfl | apply VW.lnd rfl | apply VW.tak rfl)); exact g_cat (s := ((itoS g ++ ⟨#[32]⟩) ++ key)) (r := ⟨#[32]⟩) hk (same _ _) (hl := by simp only [ByteArray.size_append, maxLen, sz32, sz10, join4_size]; omega))
      (repeat' (first | (show ObxE _ _ _ _ _ _ _ _ _ (_ :: _) _ _ _; first | refine ox1 ?_ | (refine ox2 ?_ ?_ <;> intro hp) | fail) | fail))
      refine' obe_val (fun us a w hk hd hS => ?_) ?_; rotate_left; focus (have hk := Kn.vw hk (by repeat (first | exact VW.nil | apply VW.val rfl | apply VW.base rfl rfl | apply VW.res rfl | apply VW.upd rfl | apply VW.cpy rfl | apply VW.dep rfl | apply VW.fn rfl | apply VW.lnd rfl | apply VW.tak rfl)); exact g_callO hk (hf := by kernel_rfl) (hc := itoa_any nd h2.1 h2.2 _ (ht.mono hS.below)) (h := fun _ _ h => h))
      refine' obe_val (fun us a w hk hd hS => ?_) ?_; rotate_left; focus (have hk := Kn.vw hk (by repeat (first | exact VW.nil | apply VW.val rfl | apply VW.base rfl rfl | apply VW.res rfl | apply VW.upd rfl | apply VW.cpy rfl | apply VW.dep rfl | apply VW.fn rfl | apply VW.lnd rfl | apply VW.tak rfl)); exact g_cat (s := (((itoS g ++ ⟨#[32]⟩) ++ key) ++ ⟨#[32]⟩)) (r := itoS nd) hk (same _ _) (hl := by simp only [ByteArray.size_append, maxLen, sz32, sz10, join4_size]; omega))
      refine' obe_val (fun us a w hk hd hS => ?_) ?_; rotate_left; focus (have hk := Kn.vw hk (by repeat (first | exact VW.nil | apply VW.val rfl | apply VW.base rfl rfl | apply VW.res rfl | apply VW.upd rfl | apply VW.cpy rfl | apply VW.dep rfl | apply VW.fn rfl | apply VW.lnd rfl | apply VW.tak rfl)); exact g_cat (s := ((((itoS g ++ ⟨#[32]⟩) ++ key) ++ ⟨#[32]⟩) ++ itoS nd)) (r := ⟨#[32]⟩) hk (same _ _) (hl := by simp only [ByteArray.size_append, maxLen, sz32, sz10, join4_size]; omega))
      (repeat' (first | (show ObxE _ _ _ _ _ _ _ _ _ (_ :: _) _ _ _; first | refine ox1 ?_ | (refine ox2 ?_ ?_ <;> intro hp) | fail) | fail))
      refine' obe_val (fun us a w hk hd hS => ?_) ?_; rotate_left; focus (have hk := Kn.vw hk (by repeat (first | exact VW.nil | apply VW.val rfl | apply VW.base rfl rfl | apply VW.res rfl | apply VW.upd rfl | apply VW.cpy rfl | apply VW.dep rfl | apply VW.fn rfl | apply VW.lnd rfl | apply VW.tak rfl)); exact g_cat (s := (((((itoS g ++ ⟨#[32]⟩) ++ key) ++ ⟨#[32]⟩) ++ itoS nd) ++ ⟨#[32]⟩)) (r := nameF ho) hk (same _ _) (hl := by simp only [ByteArray.size_append, maxLen, sz32, sz10, join4_size]; omega))
      refine' obe_val (fun us a w hk hd hS => ?_) ?_; rotate_left; focus (have hk := Kn.vw hk (by repeat (first | exact VW.nil | apply VW.val rfl | apply VW.base rfl rfl | apply VW.res rfl | apply VW.upd rfl | apply VW.cpy rfl | apply VW.dep rfl | apply VW.fn rfl | apply VW.lnd rfl | apply VW.tak rfl)); exact g_cat (s := ((((((itoS g ++ ⟨#[32]⟩) ++ key) ++ ⟨#[32]⟩) ++ itoS nd) ++ ⟨#[32]⟩) ++ nameF ho)) (r := ⟨#[10]⟩) hk (same _ _) (hl := by simp only [ByteArray.size_append, maxLen, sz32, sz10, join4_size]; omega))
      refine' obe_val (fun us a w hk hd hS => ?_) ?_; rotate_left; focus (have hk := Kn.vw hk (by repeat (first | exact VW.nil | apply VW.val rfl | apply VW.base rfl rfl | apply VW.res rfl | apply VW.upd rfl | apply VW.cpy rfl | apply VW.dep rfl | apply VW.fn rfl | apply VW.lnd rfl | apply VW.tak rfl)); exact g_cat (s := textF (l.take i)) (r := (((((((itoS g ++ ⟨#[32]⟩) ++ key) ++ ⟨#[32]⟩) ++ itoS nd) ++ ⟨#[32]⟩) ++ nameF ho) ++ ⟨#[10]⟩)) hk (same _ _) (hl := by simp only [ByteArray.size_append, maxLen, sz32, sz10, join4_size]; omega))
      refine obe_nil ⟨rfl, ?_⟩; intro us a w hk hS
      (repeat' (first | (show wpListIn _ _ _ _ _ (_ :: _) _ _; first | (refine wx1 ?_; clear hk a; intro a hk) | (refine wx2 ?_ ?_ <;> (intro hp; clear hk a; intro a hk)) | (refine wx3 ?_; clear hk hS a; intro w b hS a hk) | (refine wx4 ?_; clear hk hS a; intro w hS a hk) | (refine wx5 ?_; clear hk hS a; intro w v hS a hk) | fail) | refine wx0 ?_ | (refine s_end hk ?_; clear hk a; intro a hk) | fail))
      have hlx : itoS g ++ ⟨#[32]⟩ ++ key ++ ⟨#[32]⟩ ++ itoS nd ++ ⟨#[32]⟩ ++ nameF ho ++ ⟨#[10]⟩ = lineS (g, nd, ho, key) := by rw [lineS, nmE, if_neg hn]
      rw [hlx, ← hst] at hk
      exact ⟨hil, (), hk.sd, hS.sb, trivial⟩
  · have hii : i = l.length := by omega
    subst hii
    rw [List.take_length] at hk
    (repeat' (first | (show wpListIn _ _ _ _ _ (_ :: _) _ _; first | (refine wx1 ?_; clear hk a; intro a hk) | (refine wx2 ?_ ?_ <;> (intro hp; clear hk a; intro a hk)) | (refine wx3 ?_; clear hk hS a; intro w b hS a hk) | (refine wx4 ?_; clear hk hS a; intro w hS a hk) | (refine wx5 ?_; clear hk hS a; intro w v hS a hk) | fail) | refine wx0 ?_ | (refine s_end hk ?_; clear hk a; intro a hk) | fail))
    exact done1 hk (h := ⟨rfl, hS.nil⟩)
end Go.Proofs.YteoedhkppmbkoaaDoor
namespace Go.Proofs.YteoedhkppmbkoaaDoor
open Go.RowKit
set_option maxRecDepth 100000
attribute [local irreducible] Go.Code.wpIn Go.wpListIn Go.Calls Gives Go.Exit.then Go.Exit.inBlock Done ObxE

def okE (O : List Ent) (e : Ent) : Bool := decide (runF 0 (hoF O e.1 e.2.2.2) ≠ -1)
def allN (O : List Ent) (i : Nat) : Bool := (O.take i).all (okE O)
def ownN (O : List Ent) (g : Int) (k : ByteArray) (j : Nat) : List Ent := (O.take j).filter (isK g k)
end Go.Proofs.YteoedhkppmbkoaaDoor
namespace Go.Proofs.YteoedhkppmbkoaaDoor
open Go.RowKit

section
variable {α : Type} [Enc α] [EncI α] {P : Program} {W : World}
end
theorem Arg.int {P : Program} {W : World} {T : TypeId} {v : Value} (h : Arg P W T v) (hT : P.underlying T = some (.int .i64)) (ha : aggOf P T = some false) : ∃ n, v = .int .i64 n ∧ -9223372036854775808 ≤ n ∧ n ≤ 9223372036854775807 := by
  obtain ⟨n, h1, h2⟩ := rdg_int (D := 7) hT h.1
  rw [h.2.2 ha] at h1
  simp at h1
  exact ⟨n, h1, h2⟩
theorem Arg.str {P : Program} {W : World} {T : TypeId} {v : Value} (h : Arg P W T v) (hT : P.underlying T = some .string) (ha : aggOf P T = some false) : ∃ s, v = .string s ∧ s.size ≤ maxLen := by
  obtain ⟨n, h1, h2⟩ := rdg_str (D := 7) hT h.1
  rw [h.2.2 ha] at h1
  simp at h1
  exact ⟨n, h1, h2⟩
end Go.Proofs.YteoedhkppmbkoaaDoor
