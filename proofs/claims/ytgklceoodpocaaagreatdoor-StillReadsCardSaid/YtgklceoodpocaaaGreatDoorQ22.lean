/- Layer 9: a tree's text: the program. Layer 9: it and all below it, each told to a function that is handed in. Layer 9: the awakening: a view's static rendering, the empty tree of nodes. -/
import Derived.Test.YtgklceoodpocaaaGreatDoorQ19
import Derived.Test.YtgklceoodpocaaaGreatDoorQ10
import Derived.Test.YtgklceoodpocaaaGreatDoorQ11
import Derived.Test.YtgklceoodpocaaaGreatDoorQ21
set_option linter.all false
namespace Go.Proofs.YtgklceoodpocaaaGreatDoor
open Go.RowKit
set_option maxRecDepth 100000
attribute [local irreducible] Go.Code.wpIn Go.wpListIn Go.Calls Gives Go.Exit.then Go.Exit.inBlock Done ObxE
theorem digits_any (n : Int) (h : i64P n) (w0 : World) (ht : TabW w0) : Calls Tryz.prog 35 #[.int .i64 n] w0 (Ret fun v w => v = .string (itoS n) ∧ St w0 [] w) := by
 refine enter Tryz.func35 rfl Tryz.ntmps35 rfl (fun a hk => ?_);have hS := St.refl w0
 (repeat' (first|((first|refine wx1 ?_|refine wx2 ?_ ?_<;>intro hp|refine s_end hk ?_)<;>(clear hk a;intro a hk))|((first|refine wx3 ?_;intro w b|refine wx4 ?_;intro w|refine wx5 ?_;intro w v);clear hk hS a;intro hS a hk)|refine wx0 ?_|fail))
 refine sg hk (g_callO hk (hf := by kernel_rfl) (hc := itoa_any n h.1 h.2 _ (ht.mono hS.below)) (h := ?_));clear hk a;rintro _ w ⟨rfl, hS1⟩ a hk;replace hS := hS.call0 hS1;clear hS1
 (repeat' (first|((first|refine wx1 ?_|refine wx2 ?_ ?_<;>intro hp|refine s_end hk ?_)<;>(clear hk a;intro a hk))|((first|refine wx3 ?_;intro w b|refine wx4 ?_;intro w|refine wx5 ?_;intro w v);clear hk hS a;intro hS a hk)|refine wx0 ?_|fail))
 exact done1 hk (h := ⟨rfl, hS.nil⟩)
theorem sz46 : ByteArray.size ⟨#[46]⟩ = 1 := rfl
theorem sz39 : ByteArray.size ⟨#[39]⟩ = 1 := rfl
theorem sz40 : ByteArray.size ⟨#[40]⟩ = 1 := rfl
theorem sz41 : ByteArray.size ⟨#[41]⟩ = 1 := rfl
theorem sz58 : ByteArray.size ⟨#[58]⟩ = 1 := rfl
theorem sz61 : ByteArray.size ⟨#[61]⟩ = 1 := rfl
theorem sz64 : ByteArray.size ⟨#[64]⟩ = 1 := rfl
set_option maxHeartbeats 8400000 in
theorem show_any (ids : Bool) : ∀ (n : Nat) (t : STree) (h : SnH) (w0 : World), SizeOf.sizeOf t < n → SSm t → scnt t ≤ 70 → SrR w0 t h → TabW w0 → Calls Tryz.prog 11 #[snV h, .bool ids] w0 (Ret fun v w => v = .string (showT ids t) ∧ St w0 [] w)
 | 0, _, _, _, hn, _, _, _, _ => by omega
 | n + 1, t, h, w0, hn, hf, hc, hr, ht => by
  have ih := show_any ids n
  obtain ⟨id, k, tag, text, cl, al, sl, kids, a1, m1, a2, m2, a3, m3, a4, m4, H, rfl, rfl, c1, c2, c3, c4, hF⟩ := hr.split
  have hsz := show_size ids _ hf
  obtain ⟨h0, h1, h2, h3, h4, h5, h6, h7, h8, h9⟩ := hf
  have hHk : H.length = kids.length := hF.1
  have e46 := sz46
  have e39 := sz39
  have e40 := sz40
  have e41 := sz41
  have e58 := sz58
  have e61 := sz61
  have e64 := sz64
  have hito := itoP_size h0
  have hlb := lbl_size (ids := ids) h0
  simp only [scnt] at hc
  have hkc := scntL_len kids
  have hH := hd_sizes (ids := ids) h0 h1 h4 h6 h8
  show Calls Tryz.prog 11 #[.agg #[.int .i64 id, .int .i64 k, .string tag, .string text, .slice a1 cl.length m1, .slice a2 al.length m2, .slice a3 sl.length m3, .slice a4 H.length m4], .bool ids] w0 _
  refine enter Tryz.func11 rfl Tryz.ntmps11 rfl (fun a hk => ?_);have hS := St.refl w0
  refine wpIn_seq ?_;refine wpIn_region_lit ?_
  refine st_box hk hS ?_;clear hk hS a;intro w b1 hS a hk
  have c1' := hS.rdT c1
  (repeat' (first|((first|refine wx1 ?_|refine wx2 ?_ ?_<;>intro hp|refine s_end hk ?_)<;>(clear hk a;intro a hk))|((first|refine wx3 ?_;intro w b|refine wx4 ?_;intro w|refine wx5 ?_;intro w v);clear hk hS a;intro hS a hk)|refine wx0 ?_|fail))
  refine wp_join (fun a w => Kn [] 101 a [(1, .bool ids), (2, .pointer (some ⟨b1, 0, none⟩)), (5, .string (lblS ids id))] ∧ St w0 [pts b1 [.int .i64 id, .int .i64 k, .string tag, .string text, .slice a1 cl.length m1, .slice a2 al.length m2, .slice a3 sl.length m3, .slice a4 H.length m4] 41] w) ?_ ?_
  ·clear hk hS a
   rintro a w ⟨hk, hS⟩
   by_cases hk1 : k = 1
   ·rw [showT, if_pos hk1]
    (repeat' (first|((first|refine wx1 ?_|refine wx2 ?_ ?_<;>intro hp|refine s_end hk ?_)<;>(clear hk a;intro a hk))|((first|refine wx3 ?_;intro w b|refine wx4 ?_;intro w|refine wx5 ?_;intro w v);clear hk hS a;intro hS a hk)|refine wx0 ?_|fail))
    refine sg hk (g_cat (s := lblS ids id) (r := ⟨#[39]⟩) hk ?_ (hl := by simp only [ByteArray.size_append, maxLen];omega));clear hk a;intro a hk
    (repeat' (first|((first|refine wx1 ?_|refine wx2 ?_ ?_<;>intro hp|refine s_end hk ?_)<;>(clear hk a;intro a hk))|((first|refine wx3 ?_;intro w b|refine wx4 ?_;intro w|refine wx5 ?_;intro w v);clear hk hS a;intro hS a hk)|refine wx0 ?_|fail))
    refine sg hk (g_cat (s := lblS ids id ++ ⟨#[39]⟩) (r := text) hk ?_ (hl := by simp only [ByteArray.size_append, maxLen];omega));clear hk a;intro a hk
    refine sg hk (g_cat (s := lblS ids id ++ ⟨#[39]⟩ ++ text) (r := ⟨#[39]⟩) hk ?_ (hl := by simp only [ByteArray.size_append, maxLen];omega));clear hk a;intro a hk
    (repeat' (first|((first|refine wx1 ?_|refine wx2 ?_ ?_<;>intro hp|refine s_end hk ?_)<;>(clear hk a;intro a hk))|((first|refine wx3 ?_;intro w b|refine wx4 ?_;intro w|refine wx5 ?_;intro w v);clear hk hS a;intro hS a hk)|refine wx0 ?_|fail))
    exact done1 hk (h := ⟨rfl, hS.nil⟩)
   ·rw [showT, if_neg hk1]
    (repeat' (first|((first|refine wx1 ?_|refine wx2 ?_ ?_<;>intro hp|refine s_end hk ?_)<;>(clear hk a;intro a hk))|((first|refine wx3 ?_;intro w b|refine wx4 ?_;intro w|refine wx5 ?_;intro w v);clear hk hS a;intro hS a hk)|refine wx0 ?_|fail))
    refine sg hk (g_cat (s := lblS ids id) (r := tag) hk ?_ (hl := by simp only [ByteArray.size_append, maxLen];omega));clear hk a;intro a hk
    (repeat' (first|((first|refine wx1 ?_|refine wx2 ?_ ?_<;>intro hp|refine s_end hk ?_)<;>(clear hk a;intro a hk))|((first|refine wx3 ?_;intro w b|refine wx4 ?_;intro w|refine wx5 ?_;intro w v);clear hk hS a;intro hS a hk)|refine wx0 ?_|fail))
    rename Value => v6
    have c2' := hS.rdT c2
    replace hS : St w0 [OwT 9 ((lblS ids id ++ tag) :: (cl.take 0).map dotS) v6, pts b1 [.int .i64 id, .int .i64 k, .string tag, .string text, .slice a1 cl.length m1, .slice a2 al.length m2, .slice a3 sl.length m3, .slice a4 H.length m4] 41] w := hS.sub (by (repeat (first | exact Sub.nil | exact Sub.refl | refine Sub.cons atx ?_)))
    replace hk := Kn.kp [1, 2, 6, 35, 36, 37] hk
    refine wp_for cl.length (fun i v => [(6, v), (37, .int .i64 (i : Int))]) (fun i v => [OwT 9 ((lblS ids id ++ tag) :: (cl.take i).map dotS) v, pts b1 [.int .i64 id, .int .i64 k, .string tag, .string text, .slice a1 cl.length m1, .slice a2 al.length m2, .slice a3 sl.length m3, .slice a4 H.length m4] 41]) (fun _ _ => True) v6 hk skx hS.sb trivial ?_
    clear hk hS a c1'
    rintro i v7 a w hi hk hS -
    have c1' := hS.rdT c1
    have hxl : ((lblS ids id ++ tag) :: (cl.take i).map dotS).length = i + 1 := by rw [List.length_cons, List.length_map, List.length_take];omega
    by_cases hil : i < cl.length
    ·obtain ⟨c, hx⟩ : ∃ x, cl[i]? = some x := ⟨_, List.getElem?_eq_getElem hil⟩
     have hcs := h4 c (List.mem_of_getElem? hx)
     have hst : (lblS ids id ++ tag) :: (cl.take (i + 1)).map dotS = ((lblS ids id ++ tag) :: (cl.take i).map dotS) ++ [dotS c] := by rw [take_snoc hx, List.map_append, List.cons_append];rfl
     generalize (lblS ids id ++ tag) :: (cl.take i).map dotS = Y at *
     (repeat' (first|((first|refine wx1 ?_|refine wx2 ?_ ?_<;>intro hp|refine s_end hk ?_)<;>(clear hk a;intro a hk))|((first|refine wx3 ?_;intro w b|refine wx4 ?_;intro w|refine wx5 ?_;intro w v);clear hk hS a;intro hS a hk)|refine wx0 ?_|fail))
     refine sg hk (g_cat (s := ⟨#[46]⟩) (r := c) hk ?_ (hl := by simp only [ByteArray.size_append, maxLen];omega));clear hk a;intro a hk
     (repeat' (first|((first|refine wx1 ?_|refine wx2 ?_ ?_<;>intro hp|refine s_end hk ?_)<;>(clear hk a;intro a hk))|((first|refine wx3 ?_;intro w b|refine wx4 ?_;intro w|refine wx5 ?_;intro w v);clear hk hS a;intro hS a hk)|refine wx0 ?_|fail))
     rename Value => v8
     rw [show (⟨#[46]⟩ : ByteArray) ++ c = dotS c from rfl, ← hst] at hS
     exact ⟨hil, v8, hk.sd, hS.sb, trivial⟩
    ·have hii : i = cl.length := by omega
     subst hii
     rw [List.take_length] at hS
     have c2' := hS.rdT c2
     (repeat' (first|((first|refine wx1 ?_|refine wx2 ?_ ?_<;>intro hp|refine s_end hk ?_)<;>(clear hk a;intro a hk))|((first|refine wx3 ?_;intro w b|refine wx4 ?_;intro w|refine wx5 ?_;intro w v);clear hk hS a;intro hS a hk)|refine wx0 ?_|fail))
     replace hS : St w0 [OwT 9 ((lblS ids id ++ tag) :: (cl.map dotS ++ (al.take 0).map attS)) v7, pts b1 [.int .i64 id, .int .i64 k, .string tag, .string text, .slice a1 cl.length m1, .slice a2 al.length m2, .slice a3 sl.length m3, .slice a4 H.length m4] 41] w := by rw [List.take_zero, List.map_nil, List.append_nil];exact hS.sub (by (repeat (first | exact Sub.nil | exact Sub.refl | refine Sub.cons atx ?_)))
     replace hk := Kn.kp [1, 2, 6, 48, 49, 50] hk
     refine wp_for al.length (fun i v => [(6, v), (50, .int .i64 (i : Int))]) (fun i v => [OwT 9 ((lblS ids id ++ tag) :: (cl.map dotS ++ (al.take i).map attS)) v, pts b1 [.int .i64 id, .int .i64 k, .string tag, .string text, .slice a1 cl.length m1, .slice a2 al.length m2, .slice a3 sl.length m3, .slice a4 H.length m4] 41]) (fun _ _ => True) v7 hk skx hS.sb trivial ?_
     clear hk hS a c1' c2' hxl
     rintro i v7 a w hi hk hS -
     have c2' := hS.rdT c2
     have hxl : ((lblS ids id ++ tag) :: (cl.map dotS ++ (al.take i).map attS)).length = cl.length + i + 1 := by rw [List.length_cons, List.length_append, List.length_map, List.length_map, List.length_take];omega
     by_cases hil : i < al.length
     ·obtain ⟨⟨nm, val⟩, hx⟩ : ∃ x, al[i]? = some x := ⟨_, List.getElem?_eq_getElem hil⟩
      have hcs := h6 _ (List.mem_of_getElem? hx)
      simp only at hcs
      have hst : (lblS ids id ++ tag) :: (cl.map dotS ++ (al.take (i + 1)).map attS) = ((lblS ids id ++ tag) :: (cl.map dotS ++ (al.take i).map attS)) ++ [attS (nm, val)] := by rw [take_snoc hx, List.map_append, List.cons_append, List.append_assoc];rfl
      generalize (lblS ids id ++ tag) :: (cl.map dotS ++ (al.take i).map attS) = Y at *
      (repeat' (first|((first|refine wx1 ?_|refine wx2 ?_ ?_<;>intro hp|refine s_end hk ?_)<;>(clear hk a;intro a hk))|((first|refine wx3 ?_;intro w b|refine wx4 ?_;intro w|refine wx5 ?_;intro w v);clear hk hS a;intro hS a hk)|refine wx0 ?_|fail))
      refine sg hk (g_cat (s := ⟨#[64]⟩) (r := nm) hk ?_ (hl := by simp only [ByteArray.size_append, maxLen];omega));clear hk a;intro a hk
      refine sg hk (g_cat (s := ⟨#[64]⟩ ++ nm) (r := ⟨#[61]⟩) hk ?_ (hl := by simp only [ByteArray.size_append, maxLen];omega));clear hk a;intro a hk
      (repeat' (first|((first|refine wx1 ?_|refine wx2 ?_ ?_<;>intro hp|refine s_end hk ?_)<;>(clear hk a;intro a hk))|((first|refine wx3 ?_;intro w b|refine wx4 ?_;intro w|refine wx5 ?_;intro w v);clear hk hS a;intro hS a hk)|refine wx0 ?_|fail))
      refine sg hk (g_cat (s := ⟨#[64]⟩ ++ nm ++ ⟨#[61]⟩) (r := val) hk ?_ (hl := by simp only [ByteArray.size_append, maxLen];omega));clear hk a;intro a hk
      (repeat' (first|((first|refine wx1 ?_|refine wx2 ?_ ?_<;>intro hp|refine s_end hk ?_)<;>(clear hk a;intro a hk))|((first|refine wx3 ?_;intro w b|refine wx4 ?_;intro w|refine wx5 ?_;intro w v);clear hk hS a;intro hS a hk)|refine wx0 ?_|fail))
      rename Value => v8
      rw [show (⟨#[64]⟩ : ByteArray) ++ nm ++ ⟨#[61]⟩ ++ val = attS (nm, val) from rfl, ← hst] at hS
      exact ⟨hil, v8, hk.sd, hS.sb, trivial⟩
     ·have hii : i = al.length := by omega
      subst hii
      rw [List.take_length] at hS
      have c3' := hS.rdT c3
      (repeat' (first|((first|refine wx1 ?_|refine wx2 ?_ ?_<;>intro hp|refine s_end hk ?_)<;>(clear hk a;intro a hk))|((first|refine wx3 ?_;intro w b|refine wx4 ?_;intro w|refine wx5 ?_;intro w v);clear hk hS a;intro hS a hk)|refine wx0 ?_|fail))
      replace hS : St w0 [OwT 9 ((lblS ids id ++ tag) :: (cl.map dotS ++ al.map attS ++ (sl.take 0).map styS)) v7, pts b1 [.int .i64 id, .int .i64 k, .string tag, .string text, .slice a1 cl.length m1, .slice a2 al.length m2, .slice a3 sl.length m3, .slice a4 H.length m4] 41] w := by rw [List.take_zero, List.map_nil, List.append_nil];exact hS.sub (by (repeat (first | exact Sub.nil | exact Sub.refl | refine Sub.cons atx ?_)))
      replace hk := Kn.kp [1, 2, 6, 66, 67, 68] hk
      refine wp_for sl.length (fun i v => [(6, v), (68, .int .i64 (i : Int))]) (fun i v => [OwT 9 ((lblS ids id ++ tag) :: (cl.map dotS ++ al.map attS ++ (sl.take i).map styS)) v, pts b1 [.int .i64 id, .int .i64 k, .string tag, .string text, .slice a1 cl.length m1, .slice a2 al.length m2, .slice a3 sl.length m3, .slice a4 H.length m4] 41]) (fun _ _ => True) v7 hk skx hS.sb trivial ?_
      clear hk hS a c2' c3' hxl
      rintro i v7 a w hi hk hS -
      have c3' := hS.rdT c3
      have hxl : ((lblS ids id ++ tag) :: (cl.map dotS ++ al.map attS ++ (sl.take i).map styS)).length = cl.length + al.length + i + 1 := by simp only [List.length_cons, List.length_append, List.length_map, List.length_take];omega
      by_cases hil : i < sl.length
      ·obtain ⟨⟨nm, z⟩, hx⟩ : ∃ x, sl[i]? = some x := ⟨_, List.getElem?_eq_getElem hil⟩
       have hcs := h8 _ (List.mem_of_getElem? hx)
       simp only at hcs
       have hzs := itoP_size hcs.2
       have hst : (lblS ids id ++ tag) :: (cl.map dotS ++ al.map attS ++ (sl.take (i + 1)).map styS) = ((lblS ids id ++ tag) :: (cl.map dotS ++ al.map attS ++ (sl.take i).map styS)) ++ [styS (nm, z)] := by rw [take_snoc hx, List.map_append, List.cons_append];simp
       generalize (lblS ids id ++ tag) :: (cl.map dotS ++ al.map attS ++ (sl.take i).map styS) = Y at *
       (repeat' (first|((first|refine wx1 ?_|refine wx2 ?_ ?_<;>intro hp|refine s_end hk ?_)<;>(clear hk a;intro a hk))|((first|refine wx3 ?_;intro w b|refine wx4 ?_;intro w|refine wx5 ?_;intro w v);clear hk hS a;intro hS a hk)|refine wx0 ?_|fail))
       refine wp_drawn 9 mixed (by kernel_rfl) hk hS ?_;clear hk hS a
       (repeat' (first|(show ObxE _ _ _ _ _ _ _ _ _ (_::_) _ _ _;first|refine ox1 ?_|refine ox2 ?_ ?_<;>intro hp)|fail))
       refine' obe_val (fun us a w hk hd hS => ?_) ?_;rotate_left;focus (have hk := Kn.vw hk vwx;exact g_cat (s := nm) (r := ⟨#[61]⟩) hk (same _ _) (hl := by simp only [ByteArray.size_append, maxLen];omega))
       (repeat' (first|(show ObxE _ _ _ _ _ _ _ _ _ (_::_) _ _ _;first|refine ox1 ?_|refine ox2 ?_ ?_<;>intro hp)|fail))
       refine' obe_val (fun us a w hk hd hS => ?_) ?_;rotate_left;focus (have hk := Kn.vw hk vwx;exact g_callO hk (hf := by kernel_rfl) (hc := digits_any z hcs.2 _ (ht.mono hS.below)) (h := fun _ _ h => h))
       refine' obe_val (fun us a w hk hd hS => ?_) ?_;rotate_left;focus (have hk := Kn.vw hk vwx;exact g_cat (s := nm ++ ⟨#[61]⟩) (r := itoS z) hk (same _ _) (hl := by simp only [ByteArray.size_append, maxLen];omega))
       refine' obe_res (V := OwT 9 [nm ++ ⟨#[61]⟩ ++ itoS z]) (fun us a w hk hd hS => ?_) ?_
       ·have hk := Kn.vw hk vwx
        exact v_bsT (α := ByteArray) (T := 34) (E := 9) (q := [(0, .tmp 79)]) (z := .string ⟨#[]⟩) (xs := [nm ++ ⟨#[61]⟩ ++ itoS z]) (m := 0) hk (hT := eT rfl) (hE := zT rfl) (hz := oT rfl)
       refine obe_nil ⟨rfl, ?_⟩;intro us a w hk hS
       simp only [resE] at hS
       (repeat' (first|((first|refine wx1 ?_|refine wx2 ?_ ?_<;>intro hp|refine s_end hk ?_)<;>(clear hk a;intro a hk))|((first|refine wx3 ?_;intro w b|refine wx4 ?_;intro w|refine wx5 ?_;intro w v);clear hk hS a;intro hS a hk)|refine wx0 ?_|fail))
       rename Value => v8
       rw [show (nm ++ ⟨#[61]⟩ ++ itoS z : ByteArray) = styS (nm, z) from rfl, ← hst] at hS
       exact ⟨hil, v8, hk.sd, hS.sb, trivial⟩
      ·have hii : i = sl.length := by omega
       subst hii
       rw [List.take_length] at hS
       have c4' := hS.rdT c4
       (repeat' (first|((first|refine wx1 ?_|refine wx2 ?_ ?_<;>intro hp|refine s_end hk ?_)<;>(clear hk a;intro a hk))|((first|refine wx3 ?_;intro w b|refine wx4 ?_;intro w|refine wx5 ?_;intro w v);clear hk hS a;intro hS a hk)|refine wx0 ?_|fail))
       replace hk := Kn.kp [1, 6, 84, 85, 86] hk
       have hdl : (hdL ids id tag cl al sl).length = cl.length + al.length + sl.length + 1 := by unfold hdL;simp only [List.length_cons, List.length_append, List.length_map]
       replace hS : St w0 [OwT 9 (hdL ids id tag cl al sl ++ showL ids (kids.take 0)) v7] w := by rw [List.take_zero, showL, List.append_nil];exact hS.sub (by (repeat (first | exact Sub.nil | exact Sub.refl | refine Sub.cons atx ?_)))
       refine wp_for H.length (fun i v => [(6, v), (86, .int .i64 (i : Int))]) (fun i v => [OwT 9 (hdL ids id tag cl al sl ++ showL ids (kids.take i)) v]) (fun _ _ => True) v7 hk skx hS.sb trivial ?_
       clear hk hS a c3' c4' hxl
       rintro i v7 a w hi hk hS -
       have c4' := hS.rdT c4
       have hxl : (hdL ids id tag cl al sl ++ showL ids (kids.take i)).length = cl.length + al.length + sl.length + 1 + i := by rw [List.length_append, hdl, showL_map, List.length_map, List.length_take];omega
       by_cases hil : i < H.length
       ·obtain ⟨tk, htk⟩ : ∃ t, kids[i]? = some t := ⟨_, List.getElem?_eq_getElem (by omega)⟩
        obtain ⟨hd0, hx⟩ : ∃ x, H[i]? = some x := ⟨_, List.getElem?_eq_getElem hil⟩
        have hTr := hF.2 i tk hd0 htk hx
        have hmk := List.mem_of_getElem? htk
        have hlt : SizeOf.sizeOf tk < n := by have := skid_lt (id := id) (k := k) (tag := tag) (text := text) (cl := cl) (at_ := al) (st := sl) hmk;omega
        have hck := scntL_mem hmk
        have hst : hdL ids id tag cl al sl ++ showL ids (kids.take (i + 1)) = (hdL ids id tag cl al sl ++ showL ids (kids.take i)) ++ [showT ids tk] := by rw [showL_map, showL_map, take_snoc htk, List.map_append, List.append_assoc];rfl
        generalize hdL ids id tag cl al sl ++ showL ids (kids.take i) = Y at *
        obtain ⟨id', k', tag', text', ⟨x1, x2, x3⟩, ⟨y1, y2, y3⟩, ⟨z1, z2, z3⟩, ⟨u1, u2, u3⟩⟩ := hd0
        (repeat' (first|((first|refine wx1 ?_|refine wx2 ?_ ?_<;>intro hp|refine s_end hk ?_)<;>(clear hk a;intro a hk))|((first|refine wx3 ?_;intro w b|refine wx4 ?_;intro w|refine wx5 ?_;intro w v);clear hk hS a;intro hS a hk)|refine wx0 ?_|fail))
        refine sg hk (g_callO hk (hf := by kernel_rfl) (hc := ih tk (id', k', tag', text', ⟨x1, x2, x3⟩, ⟨y1, y2, y3⟩, ⟨z1, z2, z3⟩, ⟨u1, u2, u3⟩) _ hlt (h9 tk hmk) (by omega) (hS.rdSr hTr) (ht.mono hS.below)) (h := ?_));clear hk a;rintro _ w ⟨rfl, hS1⟩ a hk;replace hS := hS.call0 hS1;clear hS1
        (repeat' (first|((first|refine wx1 ?_|refine wx2 ?_ ?_<;>intro hp|refine s_end hk ?_)<;>(clear hk a;intro a hk))|((first|refine wx3 ?_;intro w b|refine wx4 ?_;intro w|refine wx5 ?_;intro w v);clear hk hS a;intro hS a hk)|refine wx0 ?_|fail))
        rename Value => v8
        rw [← hst] at hS
        exact ⟨hil, v8, hk.sd, hS.sb, trivial⟩
       ·have hii : i = kids.length := by omega
        subst hii
        rw [List.take_length] at hS hxl
        have hxs : ∀ s ∈ hdL ids id tag cl al sl ++ showL ids kids, s.size ≤ 840000 := by
         intro s hs
         rcases List.mem_append.1 hs with hs | hs
         ·have := hH s hs;omega
         ·rw [showL_map] at hs
          obtain ⟨u, hu, rfl⟩ := List.mem_map.1 hs
          have g1 := show_size ids u (h9 u hu)
          have g2 := scntL_mem hu
          omega
        have hne : hdL ids id tag cl al sl ++ showL ids kids ≠ [] := by unfold hdL;simp
        have hjz : (ByteArray.mk (joinL (hdL ids id tag cl al sl ++ showL ids kids)).toArray).size ≤ 900000 := by
         simp only [showT, if_neg hk1, ByteArray.size_append, scnt] at hsz
         omega
        (repeat' (first|((first|refine wx1 ?_|refine wx2 ?_ ?_<;>intro hp|refine s_end hk ?_)<;>(clear hk a;intro a hk))|((first|refine wx3 ?_;intro w b|refine wx4 ?_;intro w|refine wx5 ?_;intro w v);clear hk hS a;intro hS a hk)|refine wx0 ?_|fail))
        refine sg hk (g_callO hk (hf := by kernel_rfl) (hc := joinX_any 840000 (by omega) (hdL ids id tag cl al sl ++ showL ids kids) hne (by omega) hxs v7 _ (by first | exact St.rdT hS (by assumption) | exact OwT.rd (hS.rd (A := OwT _ _ _) atx) | assumption)) (h := ?_));clear hk a;rintro _ w ⟨rfl, hS1⟩ a hk;replace hS := hS.call0 hS1;clear hS1
        refine sg hk (g_cat (s := ⟨#[40]⟩) (r := ⟨(joinL (hdL ids id tag cl al sl ++ showL ids kids)).toArray⟩) hk ?_ (hl := by simp only [ByteArray.size_append, maxLen];omega));clear hk a;intro a hk
        refine sg hk (g_cat (s := ⟨#[40]⟩ ++ ⟨(joinL (hdL ids id tag cl al sl ++ showL ids kids)).toArray⟩) (r := ⟨#[41]⟩) hk ?_ (hl := by simp only [ByteArray.size_append, maxLen];omega));clear hk a;intro a hk
        (repeat' (first|((first|refine wx1 ?_|refine wx2 ?_ ?_<;>intro hp|refine s_end hk ?_)<;>(clear hk a;intro a hk))|((first|refine wx3 ?_;intro w b|refine wx4 ?_;intro w|refine wx5 ?_;intro w v);clear hk hS a;intro hS a hk)|refine wx0 ?_|fail))
        exact done1 hk (h := ⟨rfl, hS.nil⟩)
  ·cases ids with
   | true =>
    (repeat' (first|((first|refine wx1 ?_|refine wx2 ?_ ?_<;>intro hp|refine s_end hk ?_)<;>(clear hk a;intro a hk))|((first|refine wx3 ?_;intro w b|refine wx4 ?_;intro w|refine wx5 ?_;intro w v);clear hk hS a;intro hS a hk)|refine wx0 ?_|fail))
    refine sg hk (g_callO hk (hf := by kernel_rfl) (hc := digits_any id h0 _ (ht.mono hS.below)) (h := ?_));clear hk a;rintro _ w ⟨rfl, hS1⟩ a hk;replace hS := hS.call0 hS1;clear hS1
    refine sg hk (g_cat (s := itoS id) (r := ⟨#[58]⟩) hk ?_ (hl := by simp only [ByteArray.size_append, maxLen];omega));clear hk a;intro a hk
    (repeat' (first|((first|refine wx1 ?_|refine wx2 ?_ ?_<;>intro hp|refine s_end hk ?_)<;>(clear hk a;intro a hk))|((first|refine wx3 ?_;intro w b|refine wx4 ?_;intro w|refine wx5 ?_;intro w v);clear hk hS a;intro hS a hk)|refine wx0 ?_|fail))
    exact ⟨Kn.kp [1, 2, 5] hk, hS.sb⟩
   | false =>
    (repeat' (first|((first|refine wx1 ?_|refine wx2 ?_ ?_<;>intro hp|refine s_end hk ?_)<;>(clear hk a;intro a hk))|((first|refine wx3 ?_;intro w b|refine wx4 ?_;intro w|refine wx5 ?_;intro w v);clear hk hS a;intro hS a hk)|refine wx0 ?_|fail))
    exact ⟨Kn.kp [1, 2, 5] hk, hS.sb⟩
end Go.Proofs.YtgklceoodpocaaaGreatDoor
namespace Go.Proofs.YtgklceoodpocaaaGreatDoor
open Go.RowKit
set_option maxRecDepth 100000
attribute [local irreducible] Go.Code.wpIn Go.wpListIn Go.Calls Gives Go.Exit.then Go.Exit.inBlock Done ObxE
mutual
def preT : STree → List STree
 | .mk id k tag text cl al sl kids => .mk id k tag text cl al sl kids :: preL kids
def preL : List STree → List STree
 | [] => []
 | t :: ts => preT t ++ preL ts
end
theorem preL_app : ∀ (a b : List STree), preL (a ++ b) = preL a ++ preL b
 | [], b => by simp [preL]
 | t :: a, b => by rw [List.cons_append, preL, preL, preL_app a b, List.append_assoc]
theorem preL_snoc (a : List STree) (t : STree) : preL (a ++ [t]) = preL a ++ preT t := by rw [preL_app]; simp [preL]
def runP {σ : Type} (p : σ → STree → Bool × σ) : σ → List STree → Bool × σ
 | s, [] => (true, s)
 | s, x :: r => if (p s x).1 = true then runP p (p s x).2 r else (false, (p s x).2)
theorem runP_app {σ : Type} (p : σ → STree → Bool × σ) : ∀ (a b : List STree) (s : σ), runP p s (a ++ b) = if (runP p s a).1 = true then runP p (runP p s a).2 b else (false, (runP p s a).2)
 | [], b, s => by simp [runP]
 | x :: a, b, s => by
  rw [List.cons_append, runP, runP]
  by_cases h : (p s x).1 = true
  ·rw [if_pos h, if_pos h, runP_app p a b]
  ·rw [if_neg h, if_neg h, if_neg (by simp)]
theorem runP_m {σ : Type} {p : σ → STree → Bool × σ} {m : σ → Nat} (hm : ∀ s x, m (p s x).2 ≤ m s + 1) : ∀ (l : List STree) (s : σ), m (runP p s l).2 ≤ m s + l.length
 | [], s => by simp [runP]
 | x :: r, s => by
  rw [runP]
  have h := hm s x
  split
  ·have := runP_m hm r (p s x).2
   rw [List.length_cons];omega
  ·rw [List.length_cons];simp only;omega
set_option maxHeartbeats 4000000 in
theorem tall_any {σ : Type} (S : σ → HP) (p : σ → STree → Bool × σ) (m : σ → Nat) (M : Nat) (hm : ∀ s x, m (p s x).2 ≤ m s + 1) (f : FuncId) (cap : List Value) (hf : callable Tryz.prog f = true) (B : Bs)
  (hy : ∀ (s : σ) (x : STree) (h : SnH) (L : List HP) (w : World), m s < M → St B (S s :: L) w → SrR B.g x h → Calls Tryz.prog f (snV h :: cap).toArray w (Ret fun v w' => v = .bool (p s x).1 ∧ St B (S (p s x).2 :: L) w')) :
  ∀ (n : Nat) (t : STree) (h : SnH) (s : σ) (L : List HP) (w : World), SizeOf.sizeOf t < n → m s + (preT t).length ≤ M → SFits t → SrR B.g t h → St B (S s :: L) w →
   Calls Tryz.prog 88 #[snV h, .func (.func f) #[] cap.toArray] w (Ret fun v w' => v = .bool (runP p s (preT t)).1 ∧ St B (S (runP p s (preT t)).2 :: L) w')
 | 0, _, _, _, _, _, hn, _, _, _, _ => by omega
 | n + 1, t, h, s, L, w, hn, hmm, hfit, hr, hS => by
  have ih := tall_any S p m M hm f cap hf B hy n
  have hr0 := hr
  obtain ⟨id, k, tag, text, cl, al, sl, kids, a1, m1, a2, m2, a3, m3, a4, m4, H, rfl, rfl, c1, c2, c3, c4, hF⟩ := hr.split
  obtain ⟨l1, l2, l3, l4, l5⟩ := hfit
  have hHk : H.length = kids.length := hF.1
  rw [preT, List.length_cons] at hmm
  have hm1 := hm s (.mk id k tag text cl al sl kids)
  show Calls Tryz.prog 88 #[.agg #[.int .i64 id, .int .i64 k, .string tag, .string text, .slice a1 cl.length m1, .slice a2 al.length m2, .slice a3 sl.length m3, .slice a4 H.length m4], .func (.func f) #[] cap.toArray] w _
  refine enter Tryz.func88 rfl Tryz.ntmps88 rfl (fun a hk => ?_)
  refine wpIn_seq ?_;refine wpIn_region_lit ?_
  refine st_box hk hS ?_;clear hk hS a;intro w b1 hS a hk
  (repeat' (first|((first|refine wx1 ?_|refine wx2 ?_ ?_<;>intro hp|refine s_end hk ?_)<;>(clear hk a;intro a hk))|((first|refine wx3 ?_;intro w b|refine wx4 ?_;intro w|refine wx5 ?_;intro w v);clear hk hS a;intro hS a hk)|refine wx0 ?_|fail))
  replace hS := hS.sub (L' := S s :: pts b1 [.int .i64 id, .int .i64 k, .string tag, .string text, .slice a1 cl.length m1, .slice a2 al.length m2, .slice a3 sl.length m3, .slice a4 H.length m4] 41 :: L) (by (repeat (first | exact Sub.nil | exact Sub.refl | refine Sub.cons atx ?_)))
  refine sg hk (g_callvO (first := []) (cap := cap) hk (hf := hf) (hc := hy s _ (id, k, tag, text, ⟨a1, cl.length, m1⟩, ⟨a2, al.length, m2⟩, ⟨a3, sl.length, m3⟩, ⟨a4, H.length, m4⟩) _ _ (by omega) hS hr0) (h := ?_));clear hk hS a;rintro _ w ⟨rfl, hS⟩ a hk
  rw [preT, runP]
  generalize hps : p s (STree.mk id k tag text cl al sl kids) = ps at *
  obtain ⟨pb, s1⟩ := ps
  simp only at hS hk hm1 ⊢
  cases pb with
  | false =>
   (repeat' (first|((first|refine wx1 ?_|refine wx2 ?_ ?_<;>intro hp|refine s_end hk ?_)<;>(clear hk a;intro a hk))|((first|refine wx3 ?_;intro w b|refine wx4 ?_;intro w|refine wx5 ?_;intro w v);clear hk hS a;intro hS a hk)|refine wx0 ?_|fail))
   exact done1 hk (h := ⟨rfl, hS.sub (.cons .here (Sub.under .refl))⟩)
  | true =>
   have c4' := c4.frz hS.frz
   (repeat' (first|((first|refine wx1 ?_|refine wx2 ?_ ?_<;>intro hp|refine s_end hk ?_)<;>(clear hk a;intro a hk))|((first|refine wx3 ?_;intro w b|refine wx4 ?_;intro w|refine wx5 ?_;intro w v);clear hk hS a;intro hS a hk)|refine wx0 ?_|fail))
   replace hk := Kn.kp [1, 12, 13, 14] hk
   refine wp_for H.length (fun i _ => [(14, .int .i64 (i : Int))]) (fun i _ => S (runP p s1 (preL (kids.take i))).2 :: L) (fun i _ => (runP p s1 (preL (kids.take i))).1 = true) () hk skx (hS.sub (.cons .here (Sub.under .refl))) rfl ?_
   clear hk hS a c4'
   rintro i - a w hi hk hS hA
   have c4' := c4.frz hS.frz
   by_cases hil : i < H.length
   ·obtain ⟨tk, htk⟩ : ∃ t, kids[i]? = some t := ⟨_, List.getElem?_eq_getElem (by omega)⟩
    obtain ⟨hd0, hx⟩ : ∃ x, H[i]? = some x := ⟨_, List.getElem?_eq_getElem hil⟩
    have hTr := hF.2 i tk hd0 htk hx
    have hmk := List.mem_of_getElem? htk
    have hlt : SizeOf.sizeOf tk < n := by have := skid_lt (id := id) (k := k) (tag := tag) (text := text) (cl := cl) (at_ := al) (st := sl) hmk;omega
    have hst : runP p s1 (preL (kids.take (i + 1))) = runP p (runP p s1 (preL (kids.take i))).2 (preT tk) := by rw [take_snoc htk, preL_snoc, runP_app, if_pos hA]
    have hml := runP_m hm (preL (kids.take i)) s1
    have hpl : (preL (kids.take i)).length + (preT tk).length ≤ (preL kids).length := by
     have e := congrArg List.length (preL_app (kids.take (i + 1)) (kids.drop (i + 1)))
     rw [List.take_append_drop, List.length_append, take_snoc htk, preL_snoc, List.length_append] at e
     omega
    obtain ⟨id', k', tag', text', ⟨x1, x2, x3⟩, ⟨y1, y2, y3⟩, ⟨z1, z2, z3⟩, ⟨u1, u2, u3⟩⟩ := hd0
    (repeat' (first|((first|refine wx1 ?_|refine wx2 ?_ ?_<;>intro hp|refine s_end hk ?_)<;>(clear hk a;intro a hk))|((first|refine wx3 ?_;intro w b|refine wx4 ?_;intro w|refine wx5 ?_;intro w v);clear hk hS a;intro hS a hk)|refine wx0 ?_|fail))
    rename Nat => b6
    replace hS := hS.sub (L' := S (runP p s1 (preL (kids.take i))).2 :: L) (.cons (.there .here) (Sub.under .refl))
    refine sg hk (g_callO hk (hf := by kernel_rfl) (hc := ih tk (id', k', tag', text', ⟨x1, x2, x3⟩, ⟨y1, y2, y3⟩, ⟨z1, z2, z3⟩, ⟨u1, u2, u3⟩) _ _ _ hlt (by omega) (l5 tk hmk) hTr hS) (h := ?_));clear hk hS a;rintro _ w ⟨rfl, hS⟩ a hk
    rw [← hst] at hS hk
    by_cases hb : (runP p s1 (preL (kids.take (i + 1)))).1 = true
    ·rw [hb] at hk
     (repeat' (first|((first|refine wx1 ?_|refine wx2 ?_ ?_<;>intro hp|refine s_end hk ?_)<;>(clear hk a;intro a hk))|((first|refine wx3 ?_;intro w b|refine wx4 ?_;intro w|refine wx5 ?_;intro w v);clear hk hS a;intro hS a hk)|refine wx0 ?_|fail))
     exact ⟨hil, (), hk.sd, hS, hb⟩
    ·have hbf : (runP p s1 (preL (kids.take (i + 1)))).1 = false := by simpa using hb
     rw [hbf] at hk
     (repeat' (first|((first|refine wx1 ?_|refine wx2 ?_ ?_<;>intro hp|refine s_end hk ?_)<;>(clear hk a;intro a hk))|((first|refine wx3 ?_;intro w b|refine wx4 ?_;intro w|refine wx5 ?_;intro w v);clear hk hS a;intro hS a hk)|refine wx0 ?_|fail))
     have hall : runP p s1 (preL kids) = (false, (runP p s1 (preL (kids.take (i + 1)))).2) := by
      conv => lhs;rw [← List.take_append_drop (i + 1) kids]
      rw [preL_app, runP_app, if_neg hb]
     rw [if_pos rfl, hall]
     exact done1 hk (h := ⟨rfl, hS⟩)
   ·have hii : i = kids.length := by omega
    subst hii
    rw [List.take_length] at hS hA
    (repeat' (first|((first|refine wx1 ?_|refine wx2 ?_ ?_<;>intro hp|refine s_end hk ?_)<;>(clear hk a;intro a hk))|((first|refine wx3 ?_;intro w b|refine wx4 ?_;intro w|refine wx5 ?_;intro w v);clear hk hS a;intro hS a hk)|refine wx0 ?_|fail))
    rw [if_pos rfl]
    exact done1 hk (h := ⟨by rw [hA], hS⟩)
def STree.id : STree → Int
 | .mk id _ _ _ _ _ _ _ => id
def idsH (b : Nat) (acc : List Int) : HP := bagH (fun hd : Hd => [pts b [hd.v] 69, OwT 3 acc hd.v]) (fun _ => True)
def idsT (t : STree) : List Int := (preT t).map STree.id
def idsP (acc : List Int) (x : STree) : Bool × List Int := (true, acc ++ [x.id])
theorem idsP_run : ∀ (l : List STree) (acc : List Int), runP idsP acc l = (true, acc ++ l.map STree.id)
 | [], acc => by simp [runP]
 | x :: r, acc => by
  rw [runP, idsP, if_pos rfl, idsP_run r]
  simp
theorem idsY_any (bb : Nat) (B : Bs) (acc : List Int) (x : STree) (h : SnH) (L : List HP) (w : World) (hl : acc.length < 100000) (hS : St B (idsH bb acc :: L) w) (hr : SrR B.g x h) :
  Calls Tryz.prog 89 #[snV h, .pointer (some ⟨bb, 0, none⟩)] w (Ret fun v w' => v = .bool true ∧ St B (idsH bb (acc ++ [x.id]) :: L) w') := by
 obtain ⟨id, k, tag, text, cl, al, sl, kids, a1, m1, a2, m2, a3, m3, a4, m4, H, rfl, rfl, -⟩ := hr.split
 obtain ⟨hd, -, hS1⟩ := St.bag hS .here
 clear hS
 have hS := hS1
 clear hS1
 rw [List.cons_append, List.cons_append, List.nil_append] at hS
 show Calls Tryz.prog 89 #[.agg #[.int .i64 id, .int .i64 k, .string tag, .string text, .slice a1 cl.length m1, .slice a2 al.length m2, .slice a3 sl.length m3, .slice a4 H.length m4], .pointer (some ⟨bb, 0, none⟩)] w _
 refine enter Tryz.func89 rfl Tryz.ntmps89 rfl (fun a hk => ?_)
 (repeat' (first|((first|refine wx1 ?_|refine wx2 ?_ ?_<;>intro hp|refine s_end hk ?_)<;>(clear hk a;intro a hk))|((first|refine wx3 ?_;intro w b|refine wx4 ?_;intro w|refine wx5 ?_;intro w v);clear hk hS a;intro hS a hk)|refine wx0 ?_|fail))
 obtain ⟨aov, cv, hshp, _⟩ := (OwT.rd (hS.rd (A := OwT 3 _ v) atx)).shape;subst hshp
 (repeat' (first|((first|refine wx1 ?_|refine wx2 ?_ ?_<;>intro hp|refine s_end hk ?_)<;>(clear hk a;intro a hk))|((first|refine wx3 ?_;intro w b|refine wx4 ?_;intro w|refine wx5 ?_;intro w v);clear hk hS a;intro hS a hk)|refine wx0 ?_|fail))
 refine done1 hk (h := ⟨rfl, ?_⟩)
 exact bagH.of (A := fun hd : Hd => [pts bb [hd.v] 69, OwT 3 (acc ++ [id]) hd.v]) (x := ⟨aov, (acc ++ [id]).length, cv⟩) (hS.sub (.cons (by first | exact .here | exact .there .here) (.cons (by first | exact .here | exact .there .here) (Sub.under .refl)))) trivial
theorem ids_any (t : STree) (h : SnH) (w0 : World) (hf : SFits t) (hc : (preT t).length ≤ 10000) (hr : SrR w0 t h) : Calls Tryz.prog 44 #[snV h] w0 (Ret fun v w => St w0 [OwT 3 (idsT t) v] w) := by
 have hr0 := hr
 obtain ⟨id, k, tag, text, cl, al, sl, kids, a1, m1, a2, m2, a3, m3, a4, m4, H, rfl, rfl, -⟩ := hr.split
 generalize hT : STree.mk id k tag text cl al sl kids = T at *
 show Calls Tryz.prog 44 #[.agg #[.int .i64 id, .int .i64 k, .string tag, .string text, .slice a1 cl.length m1, .slice a2 al.length m2, .slice a3 sl.length m3, .slice a4 H.length m4]] w0 _
 refine enter Tryz.func44 rfl Tryz.ntmps44 rfl (fun a hk => ?_);have hS := St.refl w0
 (repeat' (first|((first|refine wx1 ?_|refine wx2 ?_ ?_<;>intro hp|refine s_end hk ?_)<;>(clear hk a;intro a hk))|((first|refine wx3 ?_;intro w b|refine wx4 ?_;intro w|refine wx5 ?_;intro w v);clear hk hS a;intro hS a hk)|refine wx0 ?_|fail))
 rename Nat => b3
 replace hS := hS.nilT 3 Int
 replace hS : St w0 (idsH b3 [] :: []) w := bagH.of (A := fun hd : Hd => [pts b3 [hd.v] 69, OwT 3 ([] : List Int) hd.v]) (x := ⟨none, 0, 0⟩) (hS.sub (by (repeat (first | exact Sub.nil | exact Sub.refl | refine Sub.cons atx ?_)))) trivial
 refine sg hk (g_callO hk (hf := by kernel_rfl) (hc := tall_any (idsH b3) idsP List.length 100000 (fun s x => by simp [idsP]) 89 [.pointer (some ⟨b3, 0, none⟩)] (by kernel_rfl) w0 (fun s x h L w hl hS hr => idsY_any b3 w0 s x h L w hl hS hr) (SizeOf.sizeOf T + 1) T (id, k, tag, text, ⟨a1, cl.length, m1⟩, ⟨a2, al.length, m2⟩, ⟨a3, sl.length, m3⟩, ⟨a4, H.length, m4⟩) [] [] _ (by omega) (by simp only [List.length_nil];omega) hf hr0 hS) (h := ?_));clear hk hS a;rintro _ w ⟨rfl, hS⟩ a hk
 rw [idsP_run] at hS hk
 obtain ⟨hd, -, hS1⟩ := St.bag hS .here
 clear hS
 have hS := hS1
 clear hS1
 rw [List.cons_append, List.cons_append, List.nil_append] at hS
 (repeat' (first|((first|refine wx1 ?_|refine wx2 ?_ ?_<;>intro hp|refine s_end hk ?_)<;>(clear hk a;intro a hk))|((first|refine wx3 ?_;intro w b|refine wx4 ?_;intro w|refine wx5 ?_;intro w v);clear hk hS a;intro hS a hk)|refine wx0 ?_|fail))
 exact done1 hk (h := hS.sub (by (repeat (first | exact Sub.nil | exact Sub.refl | refine Sub.cons atx ?_))))
theorem size9_any (t : STree) (h : SnH) (w0 : World) (hf : SFits t) (hc : (preT t).length ≤ 10000) (hr : SrR w0 t h) : Calls Tryz.prog 15 #[snV h] w0 (Ret fun v w => v = .int .i64 ((preT t).length : Int) ∧ St w0 [] w) := by
 have hr0 := hr
 obtain ⟨id, k, tag, text, cl, al, sl, kids, a1, m1, a2, m2, a3, m3, a4, m4, H, rfl, rfl, -⟩ := hr.split
 generalize hT : STree.mk id k tag text cl al sl kids = T at *
 have hl : (idsT T).length = (preT T).length := by unfold idsT;rw [List.length_map]
 show Calls Tryz.prog 15 #[.agg #[.int .i64 id, .int .i64 k, .string tag, .string text, .slice a1 cl.length m1, .slice a2 al.length m2, .slice a3 sl.length m3, .slice a4 H.length m4]] w0 _
 refine enter Tryz.func15 rfl Tryz.ntmps15 rfl (fun a hk => ?_);have hS := St.refl w0
 (repeat' (first|((first|refine wx1 ?_|refine wx2 ?_ ?_<;>intro hp|refine s_end hk ?_)<;>(clear hk a;intro a hk))|((first|refine wx3 ?_;intro w b|refine wx4 ?_;intro w|refine wx5 ?_;intro w v);clear hk hS a;intro hS a hk)|refine wx0 ?_|fail))
 refine sg hk (g_callO hk (hf := by kernel_rfl) (hc := ids_any T (id, k, tag, text, ⟨a1, cl.length, m1⟩, ⟨a2, al.length, m2⟩, ⟨a3, sl.length, m3⟩, ⟨a4, H.length, m4⟩) _ hf hc (hS.rdSr hr0)) (h := ?_));clear hk a;rintro vn w hS1 a hk;replace hS := hS.call hS1;clear hS1
 (repeat' (first|((first|refine wx1 ?_|refine wx2 ?_ ?_<;>intro hp|refine s_end hk ?_)<;>(clear hk a;intro a hk))|((first|refine wx3 ?_;intro w b|refine wx4 ?_;intro w|refine wx5 ?_;intro w v);clear hk hS a;intro hS a hk)|refine wx0 ?_|fail))
 rw [hl] at hk
 exact done1 hk (h := ⟨rfl, hS.nil⟩)
end Go.Proofs.YtgklceoodpocaaaGreatDoor
namespace Go.Proofs.YtgklceoodpocaaaGreatDoor
open Go.RowKit
set_option maxRecDepth 100000
attribute [local irreducible] Go.Code.wpIn Go.wpListIn Go.Calls Gives Go.Exit.then Go.Exit.inBlock Done ObxE
theorem of9_any (t : Tree) (h : NdH) (w0 : World) (hf : Fit 1000000 t) (hfn : Fits (nrm t)) (hr : TrR w0 t h) : Calls Tryz.prog 13 #[ndV h] w0 (Ret fun v w => St w0 [streeH (stl (nrm t)) v] w) := by
 have hr0 := hr
 obtain ⟨k, tag, key, text, cl, al, sl, e, lv, m, d, p, q, kids, a1, m1, a2, m2, a3, m3, a4, m4, H, he0, rfl, c1, c2, c3, c4, hF⟩ := hr.split
 clear he0
 show Calls Tryz.prog 13 #[.agg #[.int .i64 k, .string tag, .string key, .string text, .slice a1 cl.length m1, .slice a2 al.length m2, .slice a3 sl.length m3, .int .i64 e, .int .i64 lv, .int .i64 m, .int .i64 d, .bool p, .bool q, .slice a4 H.length m4]] w0 _
 refine enter Tryz.func13 rfl Tryz.ntmps13 rfl (fun a hk => ?_);have hS := St.refl w0
 (repeat' (first|((first|refine wx1 ?_|refine wx2 ?_ ?_<;>intro hp|refine s_end hk ?_)<;>(clear hk a;intro a hk))|((first|refine wx3 ?_;intro w b|refine wx4 ?_;intro w|refine wx5 ?_;intro w v);clear hk hS a;intro hS a hk)|refine wx0 ?_|fail))
 refine sg hk (g_callO hk (hf := by kernel_rfl) (hc := normal_any 1000000 (by omega) (SizeOf.sizeOf t + 1) t (k, tag, key, text, ⟨a1, cl.length, m1⟩, ⟨a2, al.length, m2⟩, ⟨a3, sl.length, m3⟩, (e, lv, m, d, p, q), ⟨a4, H.length, m4⟩) _ (by omega) hf (hS.rdTr hr0)) (h := ?_));clear hk a;rintro vn w hS1 a hk;replace hS := hS.call hS1;clear hS1
 rw [List.cons_append, List.nil_append] at hS
 obtain ⟨hd1, rfl, hS1⟩ := St.tree hS .here
 clear hS
 have hS := hS1
 clear hS1
 obtain ⟨k1, tag1, key1, text1, ⟨B1, N1, M1⟩, ⟨B2, N2, M2⟩, ⟨B3, N3, M3⟩, ⟨e1, lv1, m1', d1, p1, q1⟩, ⟨B4, N4, M4⟩⟩ := hd1
 refine sg hk (g_callO hk (hf := by kernel_rfl) (hc := still_any (SizeOf.sizeOf (nrm t) + 1) (nrm t) (k1, tag1, key1, text1, ⟨B1, N1, M1⟩, ⟨B2, N2, M2⟩, ⟨B3, N3, M3⟩, (e1, lv1, m1', d1, p1, q1), ⟨B4, N4, M4⟩) _ (by omega) hfn (hS.trR .here)) (h := ?_));clear hk a;rintro vm w hS1 a hk;replace hS := hS.call hS1;clear hS1
 rw [List.cons_append, List.nil_append] at hS
 obtain ⟨hd2, rfl, hS1⟩ := St.stree hS .here
 clear hS
 have hS := hS1
 clear hS1
 obtain ⟨id2, k2, tag2, text2, ⟨x12, x22, x32⟩, ⟨y12, y22, y32⟩, ⟨z12, z22, z32⟩, ⟨u12, u22, u32⟩⟩ := hd2
 (repeat' (first|((first|refine wx1 ?_|refine wx2 ?_ ?_<;>intro hp|refine s_end hk ?_)<;>(clear hk a;intro a hk))|((first|refine wx3 ?_;intro w b|refine wx4 ?_;intro w|refine wx5 ?_;intro w v);clear hk hS a;intro hS a hk)|refine wx0 ?_|fail))
 refine done1R hk rfl (.str hS (hT := aT rfl) (hs := zT rfl)) (h := ?_)
 exact streeH.of (h := (id2, k2, tag2, text2, ⟨x12, x22, x32⟩, ⟨y12, y22, y32⟩, ⟨z12, z22, z32⟩, ⟨u12, u22, u32⟩)) (hS.sub (by (repeat (first | exact Sub.nil | exact Sub.refl | refine Sub.cons atx ?_))))
theorem clip9_any (w0 : World) : Calls Tryz.prog 16 #[.int .i64 1, .int .i64 1, .int .i64 65536] w0 (Ret fun v w => v = .int .i64 1 ∧ St w0 [] w) := by
 refine enter Tryz.func16 rfl Tryz.ntmps16 rfl (fun a hk => ?_);have hS := St.refl w0
 (repeat' (first|((first|refine wx1 ?_|refine wx2 ?_ ?_<;>intro hp|refine s_end hk ?_)<;>(clear hk a;intro a hk))|((first|refine wx3 ?_;intro w b|refine wx4 ?_;intro w|refine wx5 ?_;intro w v);clear hk hS a;intro hS a hk)|refine wx0 ?_|fail))
 exact done1 hk (h := ⟨rfl, hS.nil⟩)
abbrev domC (mv : Value) : List Value := [.int .i64 1, .int .i64 1, mv]
theorem new9_any (w0 : World) : Calls Tryz.prog 5 #[.int .i64 1] w0 (Ret fun v w => ∃ bd bm e, v = .pointer (some ⟨bd, 0, none⟩) ∧ St w0 [pts bd (domC (.map (some bm))) 67, mapH encI (.map (some bm)) [((0 : Int), e)]] w) := by
 refine enter Tryz.func5 rfl Tryz.ntmps5 rfl (fun a hk => ?_);have hS := St.refl w0
 (repeat' (first|((first|refine wx1 ?_|refine wx2 ?_ ?_<;>intro hp|refine s_end hk ?_)<;>(clear hk a;intro a hk))|((first|refine wx3 ?_;intro w b|refine wx4 ?_;intro w|refine wx5 ?_;intro w v);clear hk hS a;intro hS a hk)|refine wx0 ?_|fail))
 refine sg hk (g_callO hk (hf := by kernel_rfl) (hc := clip9_any _) (h := ?_));clear hk a;rintro _ w ⟨rfl, hS1⟩ a hk;replace hS := hS.call0 hS1;clear hS1
 (repeat' (first|((first|refine wx1 ?_|refine wx2 ?_ ?_<;>intro hp|refine s_end hk ?_)<;>(clear hk a;intro a hk))|((first|refine wx3 ?_;intro w b|refine wx4 ?_;intro w|refine wx5 ?_;intro w v);clear hk hS a;intro hS a hk)|refine wx0 ?_|fail))
 refine sg hk (g_makeMap encI hS ?_);clear hk hS a;intro w mv hS a hk
 obtain ⟨bm, rfl⟩ := mapH.shape (hS.rd (A := mapH encI mv ([] : List (Int × Value))) atx)
 (repeat' (first|((first|refine wx1 ?_|refine wx2 ?_ ?_<;>intro hp|refine s_end hk ?_)<;>(clear hk a;intro a hk))|((first|refine wx3 ?_;intro w b|refine wx4 ?_;intro w|refine wx5 ?_;intro w v);clear hk hS a;intro hS a hk)|refine wx0 ?_|fail))
 refine su hk (g_mapUpdate (k := (0 : Int)) hk hS ?_ (mT rfl) keyI);clear hk hS a;intro w hS a hk
 (repeat' (first|((first|refine wx1 ?_|refine wx2 ?_ ?_<;>intro hp|refine s_end hk ?_)<;>(clear hk a;intro a hk))|((first|refine wx3 ?_;intro w b|refine wx4 ?_;intro w|refine wx5 ?_;intro w v);clear hk hS a;intro hS a hk)|refine wx0 ?_|fail))
 refine done1 hk (h := ⟨_, bm, _, rfl, hS.sub (by (repeat (first | exact Sub.nil | exact Sub.refl | refine Sub.cons atx ?_)))⟩)
theorem get9_any {B : Bs} {w : World} {L : List HP} {bd bm : Nat} {e : Value} (hS : St B (pts bd (domC (.map (some bm))) 67 :: mapH encI (.map (some bm)) [((0 : Int), e)] :: L) w) :
  Calls Tryz.prog 29 #[.pointer (some ⟨bd, 0, none⟩), .int .i64 5] w (Ret fun v w' => v = .tuple #[.agg #[.int .i64 0, .int .i64 0, .string ⟨#[]⟩, .string ⟨#[]⟩, .slice none 0 0, .slice none 0 0, .slice none 0 0, .int .i64 0, .slice none 0 0], .bool false] ∧ St B (pts bd (domC (.map (some bm))) 67 :: mapH encI (.map (some bm)) [((0 : Int), e)] :: L) w') := by
 refine enter Tryz.func29 rfl Tryz.ntmps29 rfl (fun a hk => ?_)
 (repeat' (first|((first|refine wx1 ?_|refine wx2 ?_ ?_<;>intro hp|refine s_end hk ?_)<;>(clear hk a;intro a hk))|((first|refine wx3 ?_;intro w b|refine wx4 ?_;intro w|refine wx5 ?_;intro w v);clear hk hS a;intro hS a hk)|refine wx0 ?_|fail))
 refine sg hk (g_lookupOk (k := (5 : Int)) hk (hS.rd (A := mapH encI (.map (some bm)) [((0 : Int), e)]) atx) ?_ (mT rfl) keyI (oT rfl));clear hk a;intro a hk
 rw [show getL [((0 : Int), e)] (5 : Int) = none from rfl] at hk
 simp only [Option.getD_none, Option.isSome_none] at hk
 (repeat' (first|((first|refine wx1 ?_|refine wx2 ?_ ?_<;>intro hp|refine s_end hk ?_)<;>(clear hk a;intro a hk))|((first|refine wx3 ?_;intro w b|refine wx4 ?_;intro w|refine wx5 ?_;intro w v);clear hk hS a;intro hS a hk)|refine wx0 ?_|fail))
 exact done2R hk rfl (.str hS (hT := aT rfl) (hs := zT rfl)) (.tmp rfl) (h := ⟨rfl, hS.sub (.cons atx (.cons atx (by repeat (first | exact Sub.refl | apply Sub.under))))⟩)
theorem read9_any {B : Bs} {w : World} {L : List HP} {bd bm : Nat} {e : Value} (hS : St B (pts bd (domC (.map (some bm))) 67 :: mapH encI (.map (some bm)) [((0 : Int), e)] :: L) w) :
  Calls Tryz.prog 8 #[.pointer (some ⟨bd, 0, none⟩), .int .i64 5] w (Ret fun v w' => v = .tuple #[snV zSn, .int .i64 11] ∧ St B (pts bd (domC (.map (some bm))) 67 :: mapH encI (.map (some bm)) [((0 : Int), e)] :: L) w') := by
 refine enter Tryz.func8 rfl Tryz.ntmps8 rfl (fun a hk => ?_)
 (repeat' (first|((first|refine wx1 ?_|refine wx2 ?_ ?_<;>intro hp|refine s_end hk ?_)<;>(clear hk a;intro a hk))|((first|refine wx3 ?_;intro w b|refine wx4 ?_;intro w|refine wx5 ?_;intro w v);clear hk hS a;intro hS a hk)|refine wx0 ?_|fail))
 refine sg hk (g_callO hk (hf := by kernel_rfl) (hc := get9_any (L := _) (hS.sub (.cons atx (.cons atx .refl)))) (h := ?_));clear hk hS a;rintro _ w ⟨rfl, hS⟩ a hk
 (repeat' (first|((first|refine wx1 ?_|refine wx2 ?_ ?_<;>intro hp|refine s_end hk ?_)<;>(clear hk a;intro a hk))|((first|refine wx3 ?_;intro w b|refine wx4 ?_;intro w|refine wx5 ?_;intro w v);clear hk hS a;intro hS a hk)|refine wx0 ?_|fail))
 exact done2R hk rfl (.str hS (hT := aT rfl) (hs := zT rfl)) (.tmp rfl) (h := ⟨rfl, hS.sub (.cons atx (.cons atx (by repeat (first | exact Sub.refl | apply Sub.under))))⟩)
abbrev txH (s : ByteArray) : NdH := (1, ⟨#[]⟩, ⟨#[]⟩, s, ⟨none, 0, 0⟩, ⟨none, 0, 0⟩, ⟨none, 0, 0⟩, (0, 0, 0, 0, false, false), ⟨none, 0, 0⟩)
abbrev txT (s : ByteArray) : Tree := .mk 1 ⟨#[]⟩ ⟨#[]⟩ s [] [] [] (0, 0, 0, 0, false, false) []
theorem leafR (w : World) (k : Int) (tag key text : ByteArray) (o : Opt) : TrR w (.mk k tag key text [] [] [] o []) (k, tag, key, text, ⟨none, 0, 0⟩, ⟨none, 0, 0⟩, ⟨none, 0, 0⟩, o, ⟨none, 0, 0⟩) :=
 .mk (SlT.nil (α := ByteArray) w) (SlT.nil (α := ByteArray × ByteArray) w) (SlT.nil (α := ByteArray × Int) w) (SlT.nil (α := NdH) w) rfl (fun i t h h1 _ => by simp at h1)
abbrev aT9 : Tree := .mk 2 ⟨#[112]⟩ ⟨#[]⟩ ⟨#[]⟩ [] [] [] (0, 0, 0, 0, false, false) [txT ⟨#[104, 105]⟩]
abbrev aS9 : STree := .mk 0 2 ⟨#[112]⟩ ⟨#[]⟩ [] [] [] [.mk 0 1 ⟨#[]⟩ ⟨#[104, 105]⟩ [] [] [] []]
theorem aT9_nrm : nrm aT9 = aT9 := by
 have e1 : nrm (txT ⟨#[104, 105]⟩) = txT ⟨#[104, 105]⟩ := by simp [nrm, nrmL, clnC, snapF, mrg]
 have v1 : ¬ (txT ⟨#[104, 105]⟩).void := by simp [Tree.void, Tree.kind, Tree.text]
 rw [aT9, nrm]
 simp only [nrmL, if_neg v1, e1]
 rfl
theorem aT9_stl : stl aT9 = aS9 := by simp [stl, stlL]
theorem aT9_fit : Fit 1000000 aT9 := .mk (by simp) (by simp) (by simp) (by simp) (by decide) (by
 intro t ht
 simp only [List.mem_cons, List.not_mem_nil, or_false] at ht
 rcases ht with rfl
 exact .mk (by simp) (by simp) (by simp) (by simp) (by decide) (by simp))
theorem aS9_fits : SFits aS9 := .mk (by simp) (by simp) (by simp) (by simp) (by
 intro t ht
 simp only [List.mem_cons, List.not_mem_nil, or_false] at ht
 rcases ht with rfl
 exact .mk (by simp) (by simp) (by simp) (by simp) (by simp))
theorem aS9_ssm : SSm aS9 := .mk (by unfold i64P; omega) (by decide) (by decide) (by simp) (by simp) (by simp) (by simp) (by simp) (by simp) (by
 intro t ht
 simp only [List.mem_cons, List.not_mem_nil, or_false] at ht
 rcases ht with rfl
 exact .mk (by unfold i64P;omega) (by decide) (by decide) (by simp) (by simp) (by simp) (by simp) (by simp) (by simp) (by simp))
theorem aS9_show0 : showT false aS9 = ⟨#[40, 112, 32, 39, 104, 105, 39, 41]⟩ := by decide +kernel
theorem aS9_show1 : showT true aS9 = ⟨#[40, 48, 58, 112, 32, 48, 58, 39, 104, 105, 39, 41]⟩ := by decide +kernel
theorem aS9_cnt : scnt aS9 = 2 := by simp [scnt, scntL]
theorem aS9_pre : (preT aS9).length = 2 := by simp [preT, preL]
theorem aT9_of {B : Bs} {L : List HP} {w : World} {ao : Option Addr} {c : Nat} (hS : St B (OwT 61 [txH ⟨#[104, 105]⟩] (.slice ao 1 c) :: L) w) :
  St B (treeR aT9 (2, ⟨#[112]⟩, ⟨#[]⟩, ⟨#[]⟩, ⟨none, 0, 0⟩, ⟨none, 0, 0⟩, ⟨none, 0, 0⟩, (0, 0, 0, 0, false, false), ⟨ao, 1, c⟩) :: L) w :=
 rdH.of (L1 := [OwT 61 [txH ⟨#[104, 105]⟩] (.slice ao 1 c)]) hS fun g hg =>
  .mk (SlT.nil (α := ByteArray) g) (SlT.nil (α := ByteArray × ByteArray) g) (SlT.nil (α := ByteArray × Int) g) (OwT.rd (hg (OwT 61 [txH ⟨#[104, 105]⟩] (.slice ao 1 c)) (by simp))) rfl ((FoR.nil g).snoc (leafR g 1 ⟨#[]⟩ ⟨#[]⟩ ⟨#[104, 105]⟩ (0, 0, 0, 0, false, false))).2
set_option maxHeartbeats 8000000 in
theorem awake09_any (w0 : World) (ht : TabW w0) : Calls Tryz.prog 4 #[] w0 (Ret fun v w => v = .bool true ∧ St w0 [] w) := by
 have ho := fun h w0 hr => of9_any aT9 h w0 aT9_fit (by rw [aT9_nrm];exact aT9_fit.fits) hr
 rw [aT9_nrm, aT9_stl] at ho
 have hs0 := fun h w0 hr ht => show_any false (SizeOf.sizeOf aS9 + 1) aS9 h w0 (by omega) aS9_ssm (by rw [aS9_cnt];omega) hr ht
 have hs1 := fun h w0 hr ht => show_any true (SizeOf.sizeOf aS9 + 1) aS9 h w0 (by omega) aS9_ssm (by rw [aS9_cnt];omega) hr ht
 rw [aS9_show0] at hs0
 rw [aS9_show1] at hs1
 have hz := fun h w0 hr => size9_any aS9 h w0 aS9_fits (by rw [aS9_pre];omega) hr
 rw [aS9_pre] at hz
 have hv := fun h w0 hr hr' => same9_any (SizeOf.sizeOf aS9 + 1) aS9 aS9 h h w0 (by omega) aS9_fits aS9_fits hr hr'
 rw [samS_self] at hv
 refine enter Tryz.func4 rfl Tryz.ntmps4 rfl (fun a hk => ?_);have hS := St.refl w0
 (repeat' (first|((first|refine wx1 ?_|refine wx2 ?_ ?_<;>intro hp|refine s_end hk ?_)<;>(clear hk a;intro a hk))|((first|refine wx3 ?_;intro w b|refine wx4 ?_;intro w|refine wx5 ?_;intro w v);clear hk hS a;intro hS a hk)|refine wx0 ?_|fail))
 refine sg hk (g_bsT (xs := [txH ⟨#[104, 105]⟩]) (m := 0) hk hS ?_ (hT := eT rfl) (hE := zT rfl) (hz := oT rfl));clear hk hS a;intro w vk hS a hk
 obtain ⟨aovk, cvk, hshp, _⟩ := (OwT.rd (hS.rd (A := OwT 61 _ vk) atx)).shape;subst hshp
 have hT := aT9_of (L := []) hS
 clear hS
 have hS := hT
 clear hT
 (repeat' (first|((first|refine wx1 ?_|refine wx2 ?_ ?_<;>intro hp|refine s_end hk ?_)<;>(clear hk a;intro a hk))|((first|refine wx3 ?_;intro w b|refine wx4 ?_;intro w|refine wx5 ?_;intro w v);clear hk hS a;intro hS a hk)|refine wx0 ?_|fail))
 refine sg hk (g_callO hk (hf := by kernel_rfl) (hc := ho (2, ⟨#[112]⟩, ⟨#[]⟩, ⟨#[]⟩, ⟨none, 0, 0⟩, ⟨none, 0, 0⟩, ⟨none, 0, 0⟩, (0, 0, 0, 0, false, false), ⟨aovk, 1, cvk⟩) _ (hS.trR atx)) (h := ?_));clear hk a;rintro vn w hS1 a hk;replace hS := hS.call hS1;clear hS1
 rw [List.cons_append, List.nil_append] at hS
 obtain ⟨hd1, rfl, hS1⟩ := St.stree hS .here
 clear hS
 have hS := hS1
 clear hS1
 obtain ⟨id2, k2, tag2, text2, ⟨x12, x22, x32⟩, ⟨y12, y22, y32⟩, ⟨z12, z22, z32⟩, ⟨u12, u22, u32⟩⟩ := hd1
 (repeat' (first|((first|refine wx1 ?_|refine wx2 ?_ ?_<;>intro hp|refine s_end hk ?_)<;>(clear hk a;intro a hk))|((first|refine wx3 ?_;intro w b|refine wx4 ?_;intro w|refine wx5 ?_;intro w v);clear hk hS a;intro hS a hk)|refine wx0 ?_|fail))
 refine sg hk (g_callO hk (hf := by kernel_rfl) (hc := new9_any _) (h := ?_));clear hk a;rintro vr w ⟨bd, bm, e, rfl, hS1⟩ a hk;replace hS := hS.call hS1;clear hS1
 rw [List.cons_append, List.cons_append, List.nil_append] at hS
 (repeat' (first|((first|refine wx1 ?_|refine wx2 ?_ ?_<;>intro hp|refine s_end hk ?_)<;>(clear hk a;intro a hk))|((first|refine wx3 ?_;intro w b|refine wx4 ?_;intro w|refine wx5 ?_;intro w v);clear hk hS a;intro hS a hk)|refine wx0 ?_|fail))
 refine sg hk (g_callO hk (hf := by kernel_rfl) (hc := read9_any hS) (h := ?_));clear hk hS a;rintro _ w ⟨rfl, hS⟩ a hk
 (repeat' (first|((first|refine wx1 ?_|refine wx2 ?_ ?_<;>intro hp|refine s_end hk ?_)<;>(clear hk a;intro a hk))|((first|refine wx3 ?_;intro w b|refine wx4 ?_;intro w|refine wx5 ?_;intro w v);clear hk hS a;intro hS a hk)|refine wx0 ?_|fail))
 refine sg hk (g_callO hk (hf := by kernel_rfl) (hc := hs0 (id2, k2, tag2, text2, ⟨x12, x22, x32⟩, ⟨y12, y22, y32⟩, ⟨z12, z22, z32⟩, ⟨u12, u22, u32⟩) _ (hS.srR (t := aS9) (h := (id2, k2, tag2, text2, ⟨x12, x22, x32⟩, ⟨y12, y22, y32⟩, ⟨z12, z22, z32⟩, ⟨u12, u22, u32⟩)) atx) (ht.mono hS.below)) (h := ?_));clear hk a;rintro _ w ⟨rfl, hS1⟩ a hk;replace hS := hS.call0 hS1;clear hS1
 (repeat' (first|((first|refine wx1 ?_|refine wx2 ?_ ?_<;>intro hp|refine s_end hk ?_)<;>(clear hk a;intro a hk))|((first|refine wx3 ?_;intro w b|refine wx4 ?_;intro w|refine wx5 ?_;intro w v);clear hk hS a;intro hS a hk)|refine wx0 ?_|fail))
 refine sg hk (g_callO hk (hf := by kernel_rfl) (hc := hs1 (id2, k2, tag2, text2, ⟨x12, x22, x32⟩, ⟨y12, y22, y32⟩, ⟨z12, z22, z32⟩, ⟨u12, u22, u32⟩) _ (hS.srR (t := aS9) (h := (id2, k2, tag2, text2, ⟨x12, x22, x32⟩, ⟨y12, y22, y32⟩, ⟨z12, z22, z32⟩, ⟨u12, u22, u32⟩)) atx) (ht.mono hS.below)) (h := ?_));clear hk a;rintro _ w ⟨rfl, hS1⟩ a hk;replace hS := hS.call0 hS1;clear hS1
 (repeat' (first|((first|refine wx1 ?_|refine wx2 ?_ ?_<;>intro hp|refine s_end hk ?_)<;>(clear hk a;intro a hk))|((first|refine wx3 ?_;intro w b|refine wx4 ?_;intro w|refine wx5 ?_;intro w v);clear hk hS a;intro hS a hk)|refine wx0 ?_|fail))
 refine sg hk (g_callO hk (hf := by kernel_rfl) (hc := hv (id2, k2, tag2, text2, ⟨x12, x22, x32⟩, ⟨y12, y22, y32⟩, ⟨z12, z22, z32⟩, ⟨u12, u22, u32⟩) _ (hS.srR (t := aS9) (h := (id2, k2, tag2, text2, ⟨x12, x22, x32⟩, ⟨y12, y22, y32⟩, ⟨z12, z22, z32⟩, ⟨u12, u22, u32⟩)) atx) (hS.srR (t := aS9) (h := (id2, k2, tag2, text2, ⟨x12, x22, x32⟩, ⟨y12, y22, y32⟩, ⟨z12, z22, z32⟩, ⟨u12, u22, u32⟩)) atx)) (h := ?_));clear hk a;rintro _ w ⟨rfl, hS1⟩ a hk;replace hS := hS.call0 hS1;clear hS1
 (repeat' (first|((first|refine wx1 ?_|refine wx2 ?_ ?_<;>intro hp|refine s_end hk ?_)<;>(clear hk a;intro a hk))|((first|refine wx3 ?_;intro w b|refine wx4 ?_;intro w|refine wx5 ?_;intro w v);clear hk hS a;intro hS a hk)|refine wx0 ?_|fail))
 refine sg hk (g_callO hk (hf := by kernel_rfl) (hc := hz (id2, k2, tag2, text2, ⟨x12, x22, x32⟩, ⟨y12, y22, y32⟩, ⟨z12, z22, z32⟩, ⟨u12, u22, u32⟩) _ (hS.srR (t := aS9) (h := (id2, k2, tag2, text2, ⟨x12, x22, x32⟩, ⟨y12, y22, y32⟩, ⟨z12, z22, z32⟩, ⟨u12, u22, u32⟩)) atx)) (h := ?_));clear hk a;rintro _ w ⟨rfl, hS1⟩ a hk;replace hS := hS.call0 hS1;clear hS1
 (repeat' (first|((first|refine wx1 ?_|refine wx2 ?_ ?_<;>intro hp|refine s_end hk ?_)<;>(clear hk a;intro a hk))|((first|refine wx3 ?_;intro w b|refine wx4 ?_;intro w|refine wx5 ?_;intro w v);clear hk hS a;intro hS a hk)|refine wx0 ?_|fail))
 exact done1 hk (h := ⟨rfl, hS.nil⟩)
end Go.Proofs.YtgklceoodpocaaaGreatDoor
