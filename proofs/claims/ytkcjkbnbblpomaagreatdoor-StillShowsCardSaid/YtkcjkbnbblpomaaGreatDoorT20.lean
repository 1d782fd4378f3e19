/- Layer 9: a tree's text: the program. -/
import Derived.Test.YtkcjkbnbblpomaaGreatDoorT19
set_option linter.all false
namespace Go.Proofs.YtkcjkbnbblpomaaGreatDoor
open Go.RowKit
set_option maxRecDepth 100000
attribute [local irreducible] Go.Code.wpIn Go.wpListIn Go.Calls Gives Go.Exit.then Go.Exit.inBlock Done ObxE

theorem digits_any (n : Int) (h : i64P n) (w0 : World) (ht : TabW w0) : Calls Tryz.prog 44 #[.int .i64 n] w0 (Ret fun v w => v = .string (itoS n) ∧ St w0 [] w) := by
  refine enter Tryz.func44 rfl Tryz.ntmps44 rfl (fun a hk => ?_); have hS := St.refl w0
  (repeat' (first | (show wpListIn _ _ _ _ _ (_ :: _) _ _; first | (refine wx1 ?_; clear hk a; intro a hk) | (refine wx2 ?_ ?_ <;> (intro hp; clear hk a; intro a hk)) | (refine wx3 ?_; clear hk hS a; intro w b hS a hk) | (refine wx4 ?_; clear hk hS a; intro w hS a hk) | (refine wx5 ?_; clear hk hS a; intro w v hS a hk) | fail) | refine wx0 ?_ | (refine s_end hk ?_; clear hk a; intro a hk) | fail))
  refine sg hk (g_callO hk (hf := by kernel_rfl) (hc := itoa_any n h.1 h.2 _ (ht.mono hS.below)) (h := ?_)); clear hk a; rintro _ w ⟨rfl, hS1⟩ a hk; replace hS := hS.call0 hS1; clear hS1
  (repeat' (first | (show wpListIn _ _ _ _ _ (_ :: _) _ _; first | (refine wx1 ?_; clear hk a; intro a hk) | (refine wx2 ?_ ?_ <;> (intro hp; clear hk a; intro a hk)) | (refine wx3 ?_; clear hk hS a; intro w b hS a hk) | (refine wx4 ?_; clear hk hS a; intro w hS a hk) | (refine wx5 ?_; clear hk hS a; intro w v hS a hk) | fail) | refine wx0 ?_ | (refine s_end hk ?_; clear hk a; intro a hk) | fail))
  exact done1 hk (h := ⟨rfl, hS.nil⟩)
theorem sz46 : ByteArray.size ⟨#[46]⟩ = 1 := rfl
theorem sz39 : ByteArray.size ⟨#[39]⟩ = 1 := rfl
theorem sz40 : ByteArray.size ⟨#[40]⟩ = 1 := rfl
theorem sz41 : ByteArray.size ⟨#[41]⟩ = 1 := rfl
theorem sz58 : ByteArray.size ⟨#[58]⟩ = 1 := rfl
theorem sz61 : ByteArray.size ⟨#[61]⟩ = 1 := rfl
theorem sz64 : ByteArray.size ⟨#[64]⟩ = 1 := rfl

set_option maxHeartbeats 8000000 in
theorem show_any (ids : Bool) : ∀ (n : Nat) (t : STree) (h : SnH) (w0 : World), SizeOf.sizeOf t < n → SSm t → scnt t ≤ 200 → SrR w0 t h → TabW w0 → Calls Tryz.prog 15 #[snV h, .bool ids] w0 (Ret fun v w => v = .string (showT ids t) ∧ St w0 [] w)
  | 0, _, _, _, hn, _, _, _, _ => by omega
  | n + 1, t, h, w0, hn, hf, hc, hr, ht => by
    have ih := show_any ids n
    obtain ⟨id, k, tag, text, cl, al, sl, kids, a1, m1, a2, m2, a3, m3, a4, m4, H, rfl, rfl, c1, c2, c3, c4, hF⟩ := hr.split
    have hsz := show_size ids _ hf
    obtain ⟨h0, h1, h2, h3, h4, h5, h6, h7, h8, h9⟩ := hf
    have hHk : H.length = kids.length := hF.1
    have e46 := sz46
    have e39 := sz39
    have e40 := sz40
    have e41 := sz41
    have e58 := sz58
    have e61 := sz61
    have e64 := sz64
    have hito := itoP_size h0
    have hlb := lbl_size (ids := ids) h0
    simp only [scnt] at hc
    have hkc := scntL_len kids
    have hH := hd_sizes (ids := ids) h0 h1 h4 h6 h8
    show Calls Tryz.prog 15 #[.agg #[.int .i64 id, .int .i64 k, .string tag, .string text, .slice a1 cl.length m1, .slice a2 al.length m2, .slice a3 sl.length m3, .slice a4 H.length m4], .bool ids] w0 _
    refine enter Tryz.func15 rfl Tryz.ntmps15 rfl (fun a hk => ?_); have hS := St.refl w0
    refine wpIn_seq ?_; refine wpIn_region_lit ?_
    refine st_box hk hS ?_; clear hk hS a; intro w b1 hS a hk
    have c1' := hS.rdT c1
    (repeat' (first | (show wpListIn _ _ _ _ _ (_ :: _) _ _; first | (refine wx1 ?_; clear hk a; intro a hk) | (refine wx2 ?_ ?_ <;> (intro hp; clear hk a; intro a hk)) | (refine wx3 ?_; clear hk hS a; intro w b hS a hk) | (refine wx4 ?_; clear hk hS a; intro w hS a hk) | (refine wx5 ?_; clear hk hS a; intro w v hS a hk) | fail) | refine wx0 ?_ | (refine s_end hk ?_; clear hk a; intro a hk) | fail))
    refine wp_join (fun a w => Kn [] 101 a [(1, .bool ids), (2, .pointer (some ⟨b1, 0, none⟩)), (5, .string (lblS ids id))] ∧ St w0 [pts b1 [.int .i64 id, .int .i64 k, .string tag, .string text, .slice a1 cl.length m1, .slice a2 al.length m2, .slice a3 sl.length m3, .slice a4 H.length m4] 39] w) ?_ ?_
    · clear hk hS a
      rintro a w ⟨hk, hS⟩
      by_cases hk1 : k = 1
      · rw [showT, if_pos hk1]
        (repeat' (first | (show wpListIn _ _ _ _ _ (_ :: _) _ _; first | (refine wx1 ?_; clear hk a; intro a hk) | (refine wx2 ?_ ?_ <;> (intro hp; clear hk a; intro a hk)) | (refine wx3 ?_; clear hk hS a; intro w b hS a hk) | (refine wx4 ?_; clear hk hS a; intro w hS a hk) | (refine wx5 ?_; clear hk hS a; intro w v hS a hk) | fail) | refine wx0 ?_ | (refine s_end hk ?_; clear hk a; intro a hk) | fail))
        refine sg hk (g_cat (s := lblS ids id) (r := ⟨#[39]⟩) hk ?_ (hl := by simp only [ByteArray.size_append, maxLen]; omega)); clear hk a; intro a hk
        (repeat' (first | (show wpListIn _ _ _ _ _ (_ :: _) _ _; first | (refine wx1 ?_; clear hk a; intro a hk) | (refine wx2 ?_ ?_ <;> (intro hp; clear hk a; intro a hk)) | (refine wx3 ?_; clear hk hS a; intro w b hS a hk) | (refine wx4 ?_; clear hk hS a; intro w hS a hk) | (refine wx5 ?_; clear hk hS a; intro w v hS a hk) | fail) | refine wx0 ?_ | (refine s_end hk ?_; clear hk a; intro a hk) | fail))
        refine sg hk (g_cat (s := lblS ids id ++ ⟨#[39]⟩) (r := text) hk ?_ (hl := by simp only [ByteArray.size_append, maxLen]; omega)); clear hk a; intro a hk
        refine sg hk (g_cat (s := lblS ids id ++ ⟨#[39]⟩ ++ text) (r := ⟨#[39]⟩) hk ?_ (hl := by simp only [ByteArray.size_append, maxLen]; omega)); clear hk a; intro a hk
        (repeat' (first | (show wpListIn _ _ _ _ _ (_ :: _) _ _; first | (refine wx1 ?_; clear hk a; intro a hk) | (refine wx2 ?_ ?_ <;> (intro hp; clear hk a; intro a hk)) | (refine wx3 ?_; clear hk hS a; intro w b hS a hk) | (refine wx4 ?_; clear hk hS a; intro w hS a hk) | (refine wx5 ?_; clear hk hS a; intro w v hS a hk) | fail) | refine wx0 ?_ | (refine s_end hk ?_; clear hk a; intro a hk) | fail))
        exact done1 hk (h := ⟨rfl, hS.nil⟩)
      · rw [showT, if_neg hk1]
        (repeat' (first | (show wpListIn _ _ _ _ _ (_ :: _) _ _; first | (refine wx1 ?_; clear hk a; intro a hk) | (refine wx2 ?_ ?_ <;> (intro hp; clear hk a; intro a hk)) | (refine wx3 ?_; clear hk hS a; intro w b hS a hk) | (refine wx4 ?_; clear hk hS a; intro w hS a hk) | (refine wx5 ?_; clear hk hS a; intro w v hS a hk) | fail) | refine wx0 ?_ | (refine s_end hk ?_; clear hk a; intro a hk) | fail))
        refine sg hk (g_cat (s := lblS ids id) (r := tag) hk ?_ (hl := by simp only [ByteArray.size_append, maxLen]; omega)); clear hk a; intro a hk
        (repeat' (first | (show wpListIn _ _ _ _ _ (_ :: _) _ _; first | (refine wx1 ?_; clear hk a; intro a hk) | (refine wx2 ?_ ?_ <;> (intro hp; clear hk a; intro a hk)) | (refine wx3 ?_; clear hk hS a; intro w b hS a hk) | (refine wx4 ?_; clear hk hS a; intro w hS a hk) | (refine wx5 ?_; clear hk hS a; intro w v hS a hk) | fail) | refine wx0 ?_ | (refine s_end hk ?_; clear hk a; intro a hk) | fail))
        rename Value => v6
        have c2' := hS.rdT c2
        replace hS : St w0 [OwT 9 ((lblS ids id ++ tag) :: (cl.take 0).map dotS) v6, pts b1 [.int .i64 id, .int .i64 k, .string tag, .string text, .slice a1 cl.length m1, .slice a2 al.length m2, .slice a3 sl.length m3, .slice a4 H.length m4] 39] w := hS.sub (by (repeat (first | exact Sub.nil | exact Sub.refl | refine Sub.cons (by (repeat (first | exact At.here | apply At.there))) ?_)))
        replace hk := Kn.kp [1, 2, 6, 35, 36, 37] hk
        refine wp_for cl.length (fun i v => [(6, v), (37, .int .i64 (i : Int))]) (fun i v => [OwT 9 ((lblS ids id ++ tag) :: (cl.take i).map dotS) v, pts b1 [.int .i64 id, .int .i64 k, .string tag, .string text, .slice a1 cl.length m1, .slice a2 al.length m2, .slice a3 sl.length m3, .slice a4 H.length m4] 39]) (fun _ _ => True) v6 hk (by repeat (first | exact trivial | refine ⟨rfl, ?_⟩)) hS.sb trivial ?_
        clear hk hS a c1'
        rintro i v7 a w hi hk hS -
        have c1' := hS.rdT c1
        have hxl : ((lblS ids id ++ tag) :: (cl.take i).map dotS).length = i + 1 := by rw [List.length_cons, List.length_map, List.length_take]; omega
        by_cases hil : i < cl.length
        · obtain ⟨c, hx⟩ : ∃ x, cl[i]? = some x := ⟨_, List.getElem?_eq_getElem hil⟩
          have hcs := h4 c (List.mem_of_getElem? hx)
          have hst : (lblS ids id ++ tag) :: (cl.take (i + 1)).map dotS = ((lblS ids id ++ tag) :: (cl.take i).map dotS) ++ [dotS c] := by rw [take_snoc hx, List.map_append, List.cons_append]; rfl
          generalize (lblS ids id ++ tag) :: (cl.take i).map dotS = Y at *
          (repeat' (first | (show wpListIn _ _ _ _ _ (_ :: _) _ _; first | (refine wx1 ?_; clear hk a; intro a hk) | (refine wx2 ?_ ?_ <;> (intro hp; clear hk a; intro a hk)) | (refine wx3 ?_; clear hk hS a; intro w b hS a hk) | (refine wx4 ?_; clear hk hS a; intro w hS a hk) | (refine wx5 ?_; clear hk hS a; intro w v hS a hk) | fail) | refine wx0 ?_ | (refine s_end hk ?_; clear hk a; intro a hk) | fail))
          refine sg hk (g_cat (s := ⟨#[46]⟩) (r := c) hk ?_ (hl := by simp only [ByteArray.size_append, maxLen]; omega)); clear hk a; intro a hk
          (repeat' (first | (show wpListIn _ _ _ _ _ (_ :: _) _ _; first | (refine wx1 ?_; clear hk a; intro a hk) | (refine wx2 ?_ ?_ <;> (intro hp; clear hk a; intro a hk)) | (refine wx3 ?_; clear hk hS a; intro w b hS a hk) | (refine wx4 ?_; clear hk hS a; intro w hS a hk) | (refine wx5 ?_; clear hk hS a; intro w v hS a hk) | fail) | refine wx0 ?_ | (refine s_end hk ?_; clear hk a; intro a hk) | fail))
          rename Value => v8
          rw [show (⟨#[46]⟩ : ByteArray) ++ c = dotS c from rfl, ← hst] at hS
          exact ⟨hil, v8, hk.sd, hS.sb, trivial⟩
        · have hii : i = cl.length := by omega
          subst hii
          rw [List.take_length] at hS
          have c2' := hS.rdT c2
          (repeat' (first | (show wpListIn _ _ _ _ _ (_ :: _) _ _; first | (refine wx1 ?_; clear hk a; intro a hk) | (refine wx2 ?_ ?_ <;> (intro hp; clear hk a; intro a hk)) | (refine wx3 ?_; clear hk hS a; intro w b hS a hk) | (refine wx4 ?_; clear hk hS a; intro w hS a hk) | (refine wx5 ?_; clear hk hS a; intro w v hS a hk) | fail) | refine wx0 ?_ | (refine s_end hk ?_; clear hk a; intro a hk) | fail))
          replace hS : St w0 [OwT 9 ((lblS ids id ++ tag) :: (cl.map dotS ++ (al.take 0).map attS)) v7, pts b1 [.int .i64 id, .int .i64 k, .string tag, .string text, .slice a1 cl.length m1, .slice a2 al.length m2, .slice a3 sl.length m3, .slice a4 H.length m4] 39] w := by rw [List.take_zero, List.map_nil, List.append_nil]; exact hS.sub (by (repeat (first | exact Sub.nil | exact Sub.refl | refine Sub.cons (by (repeat (first | exact At.here | apply At.there))) ?_)))
          replace hk := Kn.kp [1, 2, 6, 48, 49, 50] hk
          refine wp_for al.length (fun i v => [(6, v), (50, .int .i64 (i : Int))]) (fun i v => [OwT 9 ((lblS ids id ++ tag) :: (cl.map dotS ++ (al.take i).map attS)) v, pts b1 [.int .i64 id, .int .i64 k, .string tag, .string text, .slice a1 cl.length m1, .slice a2 al.length m2, .slice a3 sl.length m3, .slice a4 H.length m4] 39]) (fun _ _ => True) v7 hk (by repeat (first | exact trivial | refine ⟨rfl, ?_⟩)) hS.sb trivial ?_
          clear hk hS a c1' c2' hxl
          rintro i v7 a w hi hk hS -
          have c2' := hS.rdT c2
          have hxl : ((lblS ids id ++ tag) :: (cl.map dotS ++ (al.take i).map attS)).length = cl.length + i + 1 := by rw [List.length_cons, List.length_append, List.length_map, List.length_map, List.length_take]; omega
          by_cases hil : i < al.length
          · obtain ⟨⟨nm, val⟩, hx⟩ : ∃ x, al[i]? = some x := ⟨_, List.getElem?_eq_getElem hil⟩
            have hcs := h6 _ (List.mem_of_getElem? hx)
            simp only at hcs
            have hst : (lblS ids id ++ tag) :: (cl.map dotS ++ (al.take (i + 1)).map attS) = ((lblS ids id ++ tag) :: (cl.map dotS ++ (al.take i).map attS)) ++ [attS (nm, val)] := by rw [take_snoc hx, List.map_append, List.cons_append, List.append_assoc]; rfl
            generalize (lblS ids id ++ tag) :: (cl.map dotS ++ (al.take i).map attS) = Y at *
            (repeat' (first | (show wpListIn _ _ _ _ _ (_ :: _) _ _; first | (refine wx1 ?_; clear hk a; intro a hk) | (refine wx2 ?_ ?_ <;> (intro hp; clear hk a; intro a hk)) | (refine wx3 ?_; clear hk hS a; intro w b hS a hk) | (refine wx4 ?_; clear hk hS a; intro w hS a hk) | (refine wx5 ?_; clear hk hS a; intro w v hS a hk) | fail) | refine wx0 ?_ | (refine s_end hk ?_; clear hk a; intro a hk) | fail))
            refine sg hk (g_cat (s := ⟨#[64]⟩) (r := nm) hk ?_ (hl := by simp only [ByteArray.size_append, maxLen]; omega)); clear hk a; intro a hk
            refine sg hk (g_cat (s := ⟨#[64]⟩ ++ nm) (r := ⟨#[61]⟩) hk ?_ (hl := by simp only [ByteArray.size_append, maxLen]; omega)); clear hk a; intro a hk
            (repeat' (first | (show wpListIn _ _ _ _ _ (_ :: _) _ _; first | (refine wx1 ?_; clear hk a; intro a hk) | (refine wx2 ?_ ?_ <;> (intro hp; clear hk a; intro a hk)) | (refine wx3 ?_; clear hk hS a; intro w b hS a hk) | (refine wx4 ?_; clear hk hS a; intro w hS a hk) | (refine wx5 ?_; clear hk hS a; intro w v hS a hk) | fail) | refine wx0 ?_ | (refine s_end hk ?_; clear hk a; intro a hk) | fail))
            refine sg hk (g_cat (s := ⟨#[64]⟩ ++ nm ++ ⟨#[61]⟩) (r := val) hk ?_ (hl := by simp only [ByteArray.size_append, maxLen]; omega)); clear hk a; intro a hk
            (repeat' (first | (show wpListIn _ _ _ _ _ (_ :: _) _ _; first | (refine wx1 ?_; clear hk a; intro a hk) | (refine wx2 ?_ ?_ <;> (intro hp; clear hk a; intro a hk)) | (refine wx3 ?_; clear hk hS a; intro w b hS a hk) | (refine wx4 ?_; clear hk hS a; intro w hS a hk) | (refine wx5 ?_; clear hk hS a; intro w v hS a hk) | fail) | refine wx0 ?_ | (refine s_end hk ?_; clear hk a; intro a hk) | fail))
            rename Value => v8
            rw [show (⟨#[64]⟩ : ByteArray) ++ nm ++ ⟨#[61]⟩ ++ val = attS (nm, val) from rfl, ← hst] at hS
            exact ⟨hil, v8, hk.sd, hS.sb, trivial⟩
          · have hii : i = al.length := by omega
            subst hii
            rw [List.take_length] at hS
            have c3' := hS.rdT c3
            (repeat' (first | (show wpListIn _ _ _ _ _ (_ :: _) _ _; first | (refine wx1 ?_; clear hk a; intro a hk) | (refine wx2 ?_ ?_ <;> (intro hp; clear hk a; intro a hk)) | (refine wx3 ?_; clear hk hS a; intro w b hS a hk) | (refine wx4 ?_; clear hk hS a; intro w hS a hk) | (refine wx5 ?_; clear hk hS a; intro w v hS a hk) | fail) | refine wx0 ?_ | (refine s_end hk ?_; clear hk a; intro a hk) | fail))
            replace hS : St w0 [OwT 9 ((lblS ids id ++ tag) :: (cl.map dotS ++ al.map attS ++ (sl.take 0).map styS)) v7, pts b1 [.int .i64 id, .int .i64 k, .string tag, .string text, .slice a1 cl.length m1, .slice a2 al.length m2, .slice a3 sl.length m3, .slice a4 H.length m4] 39] w := by rw [List.take_zero, List.map_nil, List.append_nil]; exact hS.sub (by (repeat (first | exact Sub.nil | exact Sub.refl | refine Sub.cons (by (repeat (first | exact At.here | apply At.there))) ?_)))
            replace hk := Kn.kp [1, 2, 6, 66, 67, 68] hk
            refine wp_for sl.length (fun i v => [(6, v), (68, .int .i64 (i : Int))]) (fun i v => [OwT 9 ((lblS ids id ++ tag) :: (cl.map dotS ++ al.map attS ++ (sl.take i).map styS)) v, pts b1 [.int .i64 id, .int .i64 k, .string tag, .string text, .slice a1 cl.length m1, .slice a2 al.length m2, .slice a3 sl.length m3, .slice a4 H.length m4] 39]) (fun _ _ => True) v7 hk (by repeat (first | exact trivial | refine ⟨rfl, ?_⟩)) hS.sb trivial ?_
            clear hk hS a c2' c3' hxl
            rintro i v7 a w hi hk hS -
            have c3' := hS.rdT c3
            have hxl : ((lblS ids id ++ tag) :: (cl.map dotS ++ al.map attS ++ (sl.take i).map styS)).length = cl.length + al.length + i + 1 := by simp only [List.length_cons, List.length_append, List.length_map, List.length_take]; omega
            by_cases hil : i < sl.length
            · obtain ⟨⟨nm, z⟩, hx⟩ : ∃ x, sl[i]? = some x := ⟨_, List.getElem?_eq_getElem hil⟩
              have hcs := h8 _ (List.mem_of_getElem? hx)
              simp only at hcs
              have hzs := itoP_size hcs.2
              have hst : (lblS ids id ++ tag) :: (cl.map dotS ++ al.map attS ++ (sl.take (i + 1)).map styS) = ((lblS ids id ++ tag) :: (cl.map dotS ++ al.map attS ++ (sl.take i).map styS)) ++ [styS (nm, z)] := by rw [take_snoc hx, List.map_append, List.cons_append]; simp
              generalize (lblS ids id ++ tag) :: (cl.map dotS ++ al.map attS ++ (sl.take i).map styS) = Y at *
              (repeat' (first | (show wpListIn _ _ _ _ _ (_ :: _) _ _; first | (refine wx1 ?_; clear hk a; intro a hk) | (refine wx2 ?_ ?_ <;> (intro hp; clear hk a; intro a hk)) | (refine wx3 ?_; clear hk hS a; intro w b hS a hk) | (refine wx4 ?_; clear hk hS a; intro w hS a hk) | (refine wx5 ?_; clear hk hS a; intro w v hS a hk) | fail) | refine wx0 ?_ | (refine s_end hk ?_; clear hk a; intro a hk) | fail))
              refine wp_drawn 9 mixed (by kernel_rfl) hk hS ?_; clear hk hS a
              (repeat' (first | (show ObxE _ _ _ _ _ _ _ _ _ (_ :: _) _ _ _; first | refine ox1 ?_ | (refine ox2 ?_ ?_ <;> intro hp) | fail) | fail))
              refine' obe_val (fun us a w hk hd hS => ?_) ?_; rotate_left; focus (have hk := Kn.vw hk (by repeat (first | exact VW.nil | apply VW.val rfl | apply VW.base rfl rfl | apply VW.res rfl | apply VW.upd rfl | apply VW.cpy rfl | apply VW.dep rfl | apply VW.fn rfl | apply VW.lnd rfl | apply VW.tak rfl)); exact g_cat (s := nm) (r := ⟨#[61]⟩) hk (same _ _) (hl := by simp only [ByteArray.size_append, maxLen]; omega))
              (repeat' (first | (show ObxE _ _ _ _ _ _ _ _ _ (_ :: _) _ _ _; first | refine ox1 ?_ | (refine ox2 ?_ ?_ <;> intro hp) | fail) | fail))
              refine' obe_val (fun us a w hk hd hS => ?_) ?_; rotate_left; focus (have hk := Kn.vw hk (by repeat (first | exact VW.nil | apply VW.val rfl | apply VW.base rfl rfl | apply VW.res rfl | apply VW.upd rfl | apply VW.cpy rfl | apply VW.dep rfl | apply VW.fn rfl | apply VW.lnd rfl | apply VW.tak rfl)); exact g_callO hk (hf := by kernel_rfl) (hc := digits_any z hcs.2 _ (ht.mono hS.below)) (h := fun _ _ h => h))
              refine' obe_val (fun us a w hk hd hS => ?_) ?_; rotate_left; focus (have hk := Kn.vw hk (by repeat (first | exact VW.nil | apply VW.val rfl | apply VW.base rfl rfl | apply VW.res rfl | apply VW.upd rfl | apply VW.cpy rfl | apply VW.dep rfl | apply VW.fn rfl | apply VW.lnd rfl | apply VW.tak rfl)); exact g_cat (s := nm ++ ⟨#[61]⟩) (r := itoS z) hk (same _ _) (hl := by simp only [ByteArray.size_append, maxLen]; omega))
              refine' obe_res (V := OwT 9 [nm ++ ⟨#[61]⟩ ++ itoS z]) (fun us a w hk hd hS => ?_) ?_
              · have hk := Kn.vw hk (by repeat (first | exact VW.nil | apply VW.val rfl | apply VW.base rfl rfl | apply VW.res rfl | apply VW.upd rfl | apply VW.cpy rfl | apply VW.dep rfl | apply VW.fn rfl | apply VW.lnd rfl | apply VW.tak rfl))
                exact v_bsT (α := ByteArray) (T := 24) (E := 9) (q := [(0, .tmp 79)]) (z := .string ⟨#[]⟩) (xs := [nm ++ ⟨#[61]⟩ ++ itoS z]) (m := 0) hk (hT := eT rfl) (hE := zT rfl) (hz := oT rfl)
              refine obe_nil ⟨rfl, ?_⟩; intro us a w hk hS
              simp only [resE] at hS
              (repeat' (first | (show wpListIn _ _ _ _ _ (_ :: _) _ _; first | (refine wx1 ?_; clear hk a; intro a hk) | (refine wx2 ?_ ?_ <;> (intro hp; clear hk a; intro a hk)) | (refine wx3 ?_; clear hk hS a; intro w b hS a hk) | (refine wx4 ?_; clear hk hS a; intro w hS a hk) | (refine wx5 ?_; clear hk hS a; intro w v hS a hk) | fail) | refine wx0 ?_ | (refine s_end hk ?_; clear hk a; intro a hk) | fail))
              rename Value => v8
              rw [show (nm ++ ⟨#[61]⟩ ++ itoS z : ByteArray) = styS (nm, z) from rfl, ← hst] at hS
              exact ⟨hil, v8, hk.sd, hS.sb, trivial⟩
            · have hii : i = sl.length := by omega
              subst hii
              rw [List.take_length] at hS
              have c4' := hS.rdT c4
              (repeat' (first | (show wpListIn _ _ _ _ _ (_ :: _) _ _; first | (refine wx1 ?_; clear hk a; intro a hk) | (refine wx2 ?_ ?_ <;> (intro hp; clear hk a; intro a hk)) | (refine wx3 ?_; clear hk hS a; intro w b hS a hk) | (refine wx4 ?_; clear hk hS a; intro w hS a hk) | (refine wx5 ?_; clear hk hS a; intro w v hS a hk) | fail) | refine wx0 ?_ | (refine s_end hk ?_; clear hk a; intro a hk) | fail))
              replace hk := Kn.kp [1, 6, 84, 85, 86] hk
              have hdl : (hdL ids id tag cl al sl).length = cl.length + al.length + sl.length + 1 := by unfold hdL; simp only [List.length_cons, List.length_append, List.length_map]
              replace hS : St w0 [OwT 9 (hdL ids id tag cl al sl ++ showL ids (kids.take 0)) v7] w := by rw [List.take_zero, showL, List.append_nil]; exact hS.sub (by (repeat (first | exact Sub.nil | exact Sub.refl | refine Sub.cons (by (repeat (first | exact At.here | apply At.there))) ?_)))
              refine wp_for H.length (fun i v => [(6, v), (86, .int .i64 (i : Int))]) (fun i v => [OwT 9 (hdL ids id tag cl al sl ++ showL ids (kids.take i)) v]) (fun _ _ => True) v7 hk (by repeat (first | exact trivial | refine ⟨rfl, ?_⟩)) hS.sb trivial ?_
              clear hk hS a c3' c4' hxl
              rintro i v7 a w hi hk hS -
              have c4' := hS.rdT c4
              have hxl : (hdL ids id tag cl al sl ++ showL ids (kids.take i)).length = cl.length + al.length + sl.length + 1 + i := by rw [List.length_append, hdl, showL_map, List.length_map, List.length_take]; omega
              by_cases hil : i < H.length
              · obtain ⟨tk, htk⟩ : ∃ t, kids[i]? = some t := ⟨_, List.getElem?_eq_getElem (by omega)⟩
                obtain ⟨hd0, hx⟩ : ∃ x, H[i]? = some x := ⟨_, List.getElem?_eq_getElem hil⟩
                have hTr := hF.2 i tk hd0 htk hx
                have hmk := List.mem_of_getElem? htk
                have hlt : SizeOf.sizeOf tk < n := by have := skid_lt (id := id) (k := k) (tag := tag) (text := text) (cl := cl) (at_ := al) (st := sl) hmk; omega
                have hck := scntL_mem hmk
                have hst : hdL ids id tag cl al sl ++ showL ids (kids.take (i + 1)) = (hdL ids id tag cl al sl ++ showL ids (kids.take i)) ++ [showT ids tk] := by rw [showL_map, showL_map, take_snoc htk, List.map_append, List.append_assoc]; rfl
                generalize hdL ids id tag cl al sl ++ showL ids (kids.take i) = Y at *
                obtain ⟨id', k', tag', text', ⟨x1, x2, x3⟩, ⟨y1, y2, y3⟩, ⟨z1, z2, z3⟩, ⟨u1, u2, u3⟩⟩ := hd0
                (repeat' (first | (show wpListIn _ _ _ _ _ (_ :: _) _ _; first | (refine wx1 ?_; clear hk a; intro a hk) | (refine wx2 ?_ ?_ <;> (intro hp; clear hk a; intro a hk)) | (refine wx3 ?_; clear hk hS a; intro w b hS a hk) | (refine wx4 ?_; clear hk hS a; intro w hS a hk) | (refine wx5 ?_; clear hk hS a; intro w v hS a hk) | fail) | refine wx0 ?_ | (refine s_end hk ?_; clear hk a; intro a hk) | fail))
                refine sg hk (g_callO hk (hf := by kernel_rfl) (hc := ih tk (id', k', tag', text', ⟨x1, x2, x3⟩, ⟨y1, y2, y3⟩, ⟨z1, z2, z3⟩, ⟨u1, u2, u3⟩) _ hlt (h9 tk hmk) (by omega) (hS.rdSr hTr) (ht.mono hS.below)) (h := ?_)); clear hk a; rintro _ w ⟨rfl, hS1⟩ a hk; replace hS := hS.call0 hS1; clear hS1
                (repeat' (first | (show wpListIn _ _ _ _ _ (_ :: _) _ _; first | (refine wx1 ?_; clear hk a; intro a hk) | (refine wx2 ?_ ?_ <;> (intro hp; clear hk a; intro a hk)) | (refine wx3 ?_; clear hk hS a; intro w b hS a hk) | (refine wx4 ?_; clear hk hS a; intro w hS a hk) | (refine wx5 ?_; clear hk hS a; intro w v hS a hk) | fail) | refine wx0 ?_ | (refine s_end hk ?_; clear hk a; intro a hk) | fail))
                rename Value => v8
                rw [← hst] at hS
                exact ⟨hil, v8, hk.sd, hS.sb, trivial⟩
              · have hii : i = kids.length := by omega
                subst hii
                rw [List.take_length] at hS hxl
                have hxs : ∀ s ∈ hdL ids id tag cl al sl ++ showL ids kids, s.size ≤ 800000 := by
                  intro s hs
                  rcases List.mem_append.1 hs with hs | hs
                  · have := hH s hs; omega
                  · rw [showL_map] at hs
                    obtain ⟨u, hu, rfl⟩ := List.mem_map.1 hs
                    have g1 := show_size ids u (h9 u hu)
                    have g2 := scntL_mem hu
                    omega
                have hne : hdL ids id tag cl al sl ++ showL ids kids ≠ [] := by unfold hdL; simp
                have hjz : (ByteArray.mk (joinL (hdL ids id tag cl al sl ++ showL ids kids)).toArray).size ≤ 900000 := by
                  simp only [showT, if_neg hk1, ByteArray.size_append, scnt] at hsz
                  omega
                (repeat' (first | (show wpListIn _ _ _ _ _ (_ :: _) _ _; first | (refine wx1 ?_; clear hk a; intro a hk) | (refine wx2 ?_ ?_ <;> (intro hp; clear hk a; intro a hk)) | (refine wx3 ?_; clear hk hS a; intro w b hS a hk) | (refine wx4 ?_; clear hk hS a; intro w hS a hk) | (refine wx5 ?_; clear hk hS a; intro w v hS a hk) | fail) | refine wx0 ?_ | (refine s_end hk ?_; clear hk a; intro a hk) | fail))
                refine sg hk (g_callO hk (hf := by kernel_rfl) (hc := joinX_any 800000 (by omega) (hdL ids id tag cl al sl ++ showL ids kids) hne (by omega) hxs v7 _ (by first | exact St.rdT hS (by assumption) | exact OwT.rd (hS.rd (A := OwT _ _ _) (by (repeat (first | exact At.here | apply At.there)))) | assumption)) (h := ?_)); clear hk a; rintro _ w ⟨rfl, hS1⟩ a hk; replace hS := hS.call0 hS1; clear hS1
                refine sg hk (g_cat (s := ⟨#[40]⟩) (r := ⟨(joinL (hdL ids id tag cl al sl ++ showL ids kids)).toArray⟩) hk ?_ (hl := by simp only [ByteArray.size_append, maxLen]; omega)); clear hk a; intro a hk
                refine sg hk (g_cat (s := ⟨#[40]⟩ ++ ⟨(joinL (hdL ids id tag cl al sl ++ showL ids kids)).toArray⟩) (r := ⟨#[41]⟩) hk ?_ (hl := by simp only [ByteArray.size_append, maxLen]; omega)); clear hk a; intro a hk
                (repeat' (first | (show wpListIn _ _ _ _ _ (_ :: _) _ _; first | (refine wx1 ?_; clear hk a; intro a hk) | (refine wx2 ?_ ?_ <;> (intro hp; clear hk a; intro a hk)) | (refine wx3 ?_; clear hk hS a; intro w b hS a hk) | (refine wx4 ?_; clear hk hS a; intro w hS a hk) | (refine wx5 ?_; clear hk hS a; intro w v hS a hk) | fail) | refine wx0 ?_ | (refine s_end hk ?_; clear hk a; intro a hk) | fail))
                exact done1 hk (h := ⟨rfl, hS.nil⟩)
    · cases ids with
      | true =>
        (repeat' (first | (show wpListIn _ _ _ _ _ (_ :: _) _ _; first | (refine wx1 ?_; clear hk a; intro a hk) | (refine wx2 ?_ ?_ <;> (intro hp; clear hk a; intro a hk)) | (refine wx3 ?_; clear hk hS a; intro w b hS a hk) | (refine wx4 ?_; clear hk hS a; intro w hS a hk) | (refine wx5 ?_; clear hk hS a; intro w v hS a hk) | fail) | refine wx0 ?_ | (refine s_end hk ?_; clear hk a; intro a hk) | fail))
        refine sg hk (g_callO hk (hf := by kernel_rfl) (hc := digits_any id h0 _ (ht.mono hS.below)) (h := ?_)); clear hk a; rintro _ w ⟨rfl, hS1⟩ a hk; replace hS := hS.call0 hS1; clear hS1
        refine sg hk (g_cat (s := itoS id) (r := ⟨#[58]⟩) hk ?_ (hl := by simp only [ByteArray.size_append, maxLen]; omega)); clear hk a; intro a hk
        (repeat' (first | (show wpListIn _ _ _ _ _ (_ :: _) _ _; first | (refine wx1 ?_; clear hk a; intro a hk) | (refine wx2 ?_ ?_ <;> (intro hp; clear hk a; intro a hk)) | (refine wx3 ?_; clear hk hS a; intro w b hS a hk) | (refine wx4 ?_; clear hk hS a; intro w hS a hk) | (refine wx5 ?_; clear hk hS a; intro w v hS a hk) | fail) | refine wx0 ?_ | (refine s_end hk ?_; clear hk a; intro a hk) | fail))
        exact ⟨Kn.kp [1, 2, 5] hk, hS.sb⟩
      | false =>
        (repeat' (first | (show wpListIn _ _ _ _ _ (_ :: _) _ _; first | (refine wx1 ?_; clear hk a; intro a hk) | (refine wx2 ?_ ?_ <;> (intro hp; clear hk a; intro a hk)) | (refine wx3 ?_; clear hk hS a; intro w b hS a hk) | (refine wx4 ?_; clear hk hS a; intro w hS a hk) | (refine wx5 ?_; clear hk hS a; intro w v hS a hk) | fail) | refine wx0 ?_ | (refine s_end hk ?_; clear hk a; intro a hk) | fail))
        exact ⟨Kn.kp [1, 2, 5] hk, hS.sb⟩
end Go.Proofs.YtkcjkbnbblpomaaGreatDoor
