/- Layer 9: a tree's text: the reference. -/
import Derived.Test.YtkcjkbnbblpomaaGreatDoorS22
import Derived.Test.YtkcjkbnbblpomaaGreatDoorS23
set_option linter.all false
namespace Go.Proofs.YtkcjkbnbblpomaaGreatDoor
open Go.RowKit
set_option maxRecDepth 100000
attribute [local irreducible] Go.Code.wpIn Go.wpListIn Go.Calls Gives Go.Exit.then Go.Exit.inBlock Done ObxE

def runS (ids : Bool) (id : Int) (tag : ByteArray) (l : List ByteArray) : ByteArray := ⟨#[40]⟩ ++ ⟨(joinL ((lblS ids id ++ tag) :: l)).toArray⟩
theorem run_ext {a b : ByteArray} (h : a.data.toList = b.data.toList) : a = b := by
  cases a; cases b
  congr 1
  exact Array.toList_inj.1 h
theorem run_snoc (ids : Bool) (id : Int) (tag : ByteArray) (l : List ByteArray) (x : ByteArray) : runS ids id tag (l ++ [x]) = runS ids id tag l ++ (⟨#[32]⟩ ++ x) := by
  apply run_ext
  unfold runS
  simp only [joinL, joinT_snoc, ByteArray.data_append, Array.toList_append]
  simp
theorem run_nil (ids : Bool) (id : Int) (tag : ByteArray) : runS ids id tag [] = ⟨#[40]⟩ ++ lblS ids id ++ tag := by
  apply run_ext
  unfold runS
  simp only [joinL, joinT, ByteArray.data_append, Array.toList_append]
  simp
theorem run_dot (c : ByteArray) : (⟨#[32]⟩ : ByteArray) ++ dotS c = ⟨#[32, 46]⟩ ++ c := by
  apply run_ext
  simp only [dotS, ByteArray.data_append, Array.toList_append]
  simp
theorem run_att (n v : ByteArray) : (⟨#[32]⟩ : ByteArray) ++ attS (n, v) = ⟨#[32, 64]⟩ ++ n ++ ⟨#[61]⟩ ++ v := by
  apply run_ext
  simp only [attS, ByteArray.data_append, Array.toList_append]
  simp
theorem run_sty (n : ByteArray) (z : Int) : (⟨#[32]⟩ : ByteArray) ++ styS (n, z) = ⟨#[32]⟩ ++ n ++ ⟨#[61]⟩ ++ itoS z := by
  apply run_ext
  simp only [styS, ByteArray.data_append, Array.toList_append]
  simp
theorem run_size (ids : Bool) (id : Int) (tag : ByteArray) (l : List ByteArray) : (runS ids id tag l).size = 1 + (lblS ids id ++ tag).size + lenL l + l.length := by
  have e1 : ByteArray.size ⟨#[40]⟩ = 1 := rfl
  have hj : (ByteArray.mk (joinL ((lblS ids id ++ tag) :: l)).toArray).size = (joinL ((lblS ids id ++ tag) :: l)).length := by simp [ByteArray.size]
  unfold runS
  rw [ByteArray.size_append, e1, hj, joinL_size]; omega
theorem showL_size (ids : Bool) : ∀ ts : List STree, (∀ t ∈ ts, SSm t) → lenL (showL ids ts) + ts.length ≤ 4000 * scntL ts
  | [], _ => by simp [showL, lenL, scntL]
  | u :: us, h => by
    have a1 := show_size ids u (h u (by simp))
    have a2 := showL_size ids us fun t ht => h t (by simp [ht])
    unfold lenL at *
    simp only [showL, List.map_cons, List.sum_cons, List.length_cons, scntL]
    omega
theorem scntL_take (ts : List STree) (i : Nat) : scntL (ts.take i) ≤ scntL ts := by
  induction ts generalizing i with
  | nil => simp [scntL]
  | cons t ts ih =>
    cases i with
    | zero => simp [scntL]
    | succ i => have := ih i; simp only [List.take_succ_cons, scntL]; omega
set_option maxHeartbeats 8000000 in
theorem rshow9_any (ids : Bool) : ∀ (n : Nat) (t : STree) (h : SnH) (w0 : World), SizeOf.sizeOf t < n → SSm t → scnt t ≤ 200 → SrR w0 t h → TabW w0 → Calls Tryz.prog 16 #[snV h, .bool ids] w0 (Ret fun v w => v = .string (showT ids t) ∧ St w0 [] w)
  | 0, _, _, _, hn, _, _, _, _ => by omega
  | n + 1, t, h, w0, hn, hf, hc, hr, ht => by
    have ih := rshow9_any ids n
    obtain ⟨id, k, tag, text, cl, al, sl, kids, a1, m1, a2, m2, a3, m3, a4, m4, H, rfl, rfl, c1, c2, c3, c4, hF⟩ := hr.split
    have hsz := show_size ids _ hf
    obtain ⟨h0, h1, h2, h3, h4, h5, h6, h7, h8, h9⟩ := hf
    have hHk : H.length = kids.length := hF.1
    have e46 : ByteArray.size ⟨#[32, 46]⟩ = 2 := rfl
    have e39 := sz39
    have e40 := sz40
    have e41 := sz41
    have e58 := sz58
    have e61 := sz61
    have e64 : ByteArray.size ⟨#[32, 64]⟩ = 2 := rfl
    have e32 : ByteArray.size ⟨#[32]⟩ = 1 := rfl
    have hito := itoP_size h0
    have hlb := lbl_size (ids := ids) h0
    simp only [scnt] at hc
    have hkc := scntL_len kids
    have hH := hd_sizes (ids := ids) h0 h1 h4 h6 h8
    have hlt0 : (lblS ids id ++ tag).size ≤ 42 := by rw [ByteArray.size_append]; omega
    show Calls Tryz.prog 16 #[.agg #[.int .i64 id, .int .i64 k, .string tag, .string text, .slice a1 cl.length m1, .slice a2 al.length m2, .slice a3 sl.length m3, .slice a4 H.length m4], .bool ids] w0 _
    refine enter Tryz.func16 rfl Tryz.ntmps16 rfl (fun a hk => ?_); have hS := St.refl w0
    refine wpIn_seq ?_; refine wpIn_region_lit ?_
    refine st_box hk hS ?_; clear hk hS a; intro w b1 hS a hk
    (repeat' (first | (show wpListIn _ _ _ _ _ (_ :: _) _ _; first | (refine wx1 ?_; clear hk a; intro a hk) | (refine wx2 ?_ ?_ <;> (intro hp; clear hk a; intro a hk)) | (refine wx3 ?_; clear hk hS a; intro w b hS a hk) | (refine wx4 ?_; clear hk hS a; intro w hS a hk) | (refine wx5 ?_; clear hk hS a; intro w v hS a hk) | fail) | refine wx0 ?_ | (refine s_end hk ?_; clear hk a; intro a hk) | fail))
    refine wp_join (fun a w => Kn [] 97 a [(1, .bool ids), (2, .pointer (some ⟨b1, 0, none⟩)), (5, .string (lblS ids id))] ∧ St w0 [pts b1 [.int .i64 id, .int .i64 k, .string tag, .string text, .slice a1 cl.length m1, .slice a2 al.length m2, .slice a3 sl.length m3, .slice a4 H.length m4] 48] w) ?_ ?_
    · clear hk hS a
      rintro a w ⟨hk, hS⟩
      by_cases hk1 : k = 1
      · rw [showT, if_pos hk1]
        (repeat' (first | (show wpListIn _ _ _ _ _ (_ :: _) _ _; first | (refine wx1 ?_; clear hk a; intro a hk) | (refine wx2 ?_ ?_ <;> (intro hp; clear hk a; intro a hk)) | (refine wx3 ?_; clear hk hS a; intro w b hS a hk) | (refine wx4 ?_; clear hk hS a; intro w hS a hk) | (refine wx5 ?_; clear hk hS a; intro w v hS a hk) | fail) | refine wx0 ?_ | (refine s_end hk ?_; clear hk a; intro a hk) | fail))
        refine sg hk (g_cat (s := lblS ids id) (r := ⟨#[39]⟩) hk ?_ (hl := by simp only [ByteArray.size_append, maxLen]; omega)); clear hk a; intro a hk
        (repeat' (first | (show wpListIn _ _ _ _ _ (_ :: _) _ _; first | (refine wx1 ?_; clear hk a; intro a hk) | (refine wx2 ?_ ?_ <;> (intro hp; clear hk a; intro a hk)) | (refine wx3 ?_; clear hk hS a; intro w b hS a hk) | (refine wx4 ?_; clear hk hS a; intro w hS a hk) | (refine wx5 ?_; clear hk hS a; intro w v hS a hk) | fail) | refine wx0 ?_ | (refine s_end hk ?_; clear hk a; intro a hk) | fail))
        refine sg hk (g_cat (s := lblS ids id ++ ⟨#[39]⟩) (r := text) hk ?_ (hl := by simp only [ByteArray.size_append, maxLen]; omega)); clear hk a; intro a hk
        refine sg hk (g_cat (s := lblS ids id ++ ⟨#[39]⟩ ++ text) (r := ⟨#[39]⟩) hk ?_ (hl := by simp only [ByteArray.size_append, maxLen]; omega)); clear hk a; intro a hk
        (repeat' (first | (show wpListIn _ _ _ _ _ (_ :: _) _ _; first | (refine wx1 ?_; clear hk a; intro a hk) | (refine wx2 ?_ ?_ <;> (intro hp; clear hk a; intro a hk)) | (refine wx3 ?_; clear hk hS a; intro w b hS a hk) | (refine wx4 ?_; clear hk hS a; intro w hS a hk) | (refine wx5 ?_; clear hk hS a; intro w v hS a hk) | fail) | refine wx0 ?_ | (refine s_end hk ?_; clear hk a; intro a hk) | fail))
        exact done1 hk (h := ⟨rfl, hS.nil⟩)
      · have hfin : showT ids (.mk id k tag text cl al sl kids) = runS ids id tag ((cl.map dotS ++ al.map attS ++ sl.map styS) ++ showL ids kids) ++ ⟨#[41]⟩ := by
          rw [showT, if_neg hk1]
          rfl
        rw [hfin] at hsz ⊢
        rw [ByteArray.size_append] at hsz
        simp only [scnt] at hsz
        clear hfin
        have c1' := hS.rdT c1
        (repeat' (first | (show wpListIn _ _ _ _ _ (_ :: _) _ _; first | (refine wx1 ?_; clear hk a; intro a hk) | (refine wx2 ?_ ?_ <;> (intro hp; clear hk a; intro a hk)) | (refine wx3 ?_; clear hk hS a; intro w b hS a hk) | (refine wx4 ?_; clear hk hS a; intro w hS a hk) | (refine wx5 ?_; clear hk hS a; intro w v hS a hk) | fail) | refine wx0 ?_ | (refine s_end hk ?_; clear hk a; intro a hk) | fail))
        refine sg hk (g_cat (s := ⟨#[40]⟩) (r := lblS ids id) hk ?_ (hl := by simp only [ByteArray.size_append, maxLen]; omega)); clear hk a; intro a hk
        (repeat' (first | (show wpListIn _ _ _ _ _ (_ :: _) _ _; first | (refine wx1 ?_; clear hk a; intro a hk) | (refine wx2 ?_ ?_ <;> (intro hp; clear hk a; intro a hk)) | (refine wx3 ?_; clear hk hS a; intro w b hS a hk) | (refine wx4 ?_; clear hk hS a; intro w hS a hk) | (refine wx5 ?_; clear hk hS a; intro w v hS a hk) | fail) | refine wx0 ?_ | (refine s_end hk ?_; clear hk a; intro a hk) | fail))
        refine sg hk (g_cat (s := ⟨#[40]⟩ ++ lblS ids id) (r := tag) hk ?_ (hl := by simp only [ByteArray.size_append, maxLen]; omega)); clear hk a; intro a hk
        rw [← run_nil] at hk
        (repeat' (first | (show wpListIn _ _ _ _ _ (_ :: _) _ _; first | (refine wx1 ?_; clear hk a; intro a hk) | (refine wx2 ?_ ?_ <;> (intro hp; clear hk a; intro a hk)) | (refine wx3 ?_; clear hk hS a; intro w b hS a hk) | (refine wx4 ?_; clear hk hS a; intro w hS a hk) | (refine wx5 ?_; clear hk hS a; intro w v hS a hk) | fail) | refine wx0 ?_ | (refine s_end hk ?_; clear hk a; intro a hk) | fail))
        replace hk := Kn.kp [1, 2, 6, 35, 36, 37] hk
        refine wp_for cl.length (fun i _ => [(6, .string (runS ids id tag ((cl.take i).map dotS))), (37, .int .i64 (i : Int))]) (fun _ _ => [pts b1 [.int .i64 id, .int .i64 k, .string tag, .string text, .slice a1 cl.length m1, .slice a2 al.length m2, .slice a3 sl.length m3, .slice a4 H.length m4] 48]) (fun _ _ => True) () hk (by repeat (first | exact trivial | refine ⟨rfl, ?_⟩)) hS.sb trivial ?_
        clear hk hS a c1'
        rintro i - a w hi hk hS -
        have c1' := hS.rdT c1
        by_cases hil : i < cl.length
        · obtain ⟨c, hx⟩ : ∃ x, cl[i]? = some x := ⟨_, List.getElem?_eq_getElem hil⟩
          have hcs := h4 c (List.mem_of_getElem? hx)
          have hst : runS ids id tag ((cl.take (i + 1)).map dotS) = runS ids id tag ((cl.take i).map dotS) ++ (⟨#[32, 46]⟩ ++ c) := by rw [take_snoc hx, List.map_append, List.map_singleton, run_snoc, run_dot]
          have hrs := run_size ids id tag ((cl.take i).map dotS)
          have hle := lenL_le (l := (cl.take i).map dotS) (X := 62) (fun s hs => hH s (by
            obtain ⟨y, hy, rfl⟩ := List.mem_map.1 hs
            unfold hdL
            exact List.mem_cons_of_mem _ (List.mem_append_left _ (List.mem_append_left _ (List.mem_map.2 ⟨y, List.mem_of_mem_take hy, rfl⟩)))))
          have hll : ((cl.take i).map dotS).length ≤ 4 := by rw [List.length_map, List.length_take]; omega
          generalize runS ids id tag ((cl.take i).map dotS) = Y at *
          (repeat' (first | (show wpListIn _ _ _ _ _ (_ :: _) _ _; first | (refine wx1 ?_; clear hk a; intro a hk) | (refine wx2 ?_ ?_ <;> (intro hp; clear hk a; intro a hk)) | (refine wx3 ?_; clear hk hS a; intro w b hS a hk) | (refine wx4 ?_; clear hk hS a; intro w hS a hk) | (refine wx5 ?_; clear hk hS a; intro w v hS a hk) | fail) | refine wx0 ?_ | (refine s_end hk ?_; clear hk a; intro a hk) | fail))
          refine sg hk (g_cat (s := ⟨#[32, 46]⟩) (r := c) hk ?_ (hl := by simp only [ByteArray.size_append, maxLen]; omega)); clear hk a; intro a hk
          refine sg hk (g_cat (s := Y) (r := ⟨#[32, 46]⟩ ++ c) hk ?_ (hl := by simp only [ByteArray.size_append, maxLen]; omega)); clear hk a; intro a hk
          rw [← hst] at hk
          (repeat' (first | (show wpListIn _ _ _ _ _ (_ :: _) _ _; first | (refine wx1 ?_; clear hk a; intro a hk) | (refine wx2 ?_ ?_ <;> (intro hp; clear hk a; intro a hk)) | (refine wx3 ?_; clear hk hS a; intro w b hS a hk) | (refine wx4 ?_; clear hk hS a; intro w hS a hk) | (refine wx5 ?_; clear hk hS a; intro w v hS a hk) | fail) | refine wx0 ?_ | (refine s_end hk ?_; clear hk a; intro a hk) | fail))
          exact ⟨hil, (), hk.sd, hS.sb, trivial⟩
        · have hii : i = cl.length := by omega
          subst hii
          rw [List.take_length] at hk
          have c2' := hS.rdT c2
          (repeat' (first | (show wpListIn _ _ _ _ _ (_ :: _) _ _; first | (refine wx1 ?_; clear hk a; intro a hk) | (refine wx2 ?_ ?_ <;> (intro hp; clear hk a; intro a hk)) | (refine wx3 ?_; clear hk hS a; intro w b hS a hk) | (refine wx4 ?_; clear hk hS a; intro w hS a hk) | (refine wx5 ?_; clear hk hS a; intro w v hS a hk) | fail) | refine wx0 ?_ | (refine s_end hk ?_; clear hk a; intro a hk) | fail))
          rw [show runS ids id tag (cl.map dotS) = runS ids id tag (cl.map dotS ++ (al.take 0).map attS) by simp] at hk
          replace hk := Kn.kp [1, 2, 6, 47, 48, 49] hk
          refine wp_for al.length (fun i _ => [(6, .string (runS ids id tag (cl.map dotS ++ (al.take i).map attS))), (49, .int .i64 (i : Int))]) (fun _ _ => [pts b1 [.int .i64 id, .int .i64 k, .string tag, .string text, .slice a1 cl.length m1, .slice a2 al.length m2, .slice a3 sl.length m3, .slice a4 H.length m4] 48]) (fun _ _ => True) () hk (by repeat (first | exact trivial | refine ⟨rfl, ?_⟩)) hS.sb trivial ?_
          clear hk hS a c1' c2'
          rintro i - a w hi hk hS -
          have c2' := hS.rdT c2
          by_cases hil : i < al.length
          · obtain ⟨⟨nm, val⟩, hx⟩ : ∃ x, al[i]? = some x := ⟨_, List.getElem?_eq_getElem hil⟩
            have hcs := h6 _ (List.mem_of_getElem? hx)
            simp only at hcs
            have hst : runS ids id tag (cl.map dotS ++ (al.take (i + 1)).map attS) = runS ids id tag (cl.map dotS ++ (al.take i).map attS) ++ (⟨#[32, 64]⟩ ++ nm ++ ⟨#[61]⟩ ++ val) := by rw [take_snoc hx, List.map_append, List.map_singleton, ← List.append_assoc, run_snoc, run_att]
            have hrs := run_size ids id tag (cl.map dotS ++ (al.take i).map attS)
            have hle := lenL_le (l := cl.map dotS ++ (al.take i).map attS) (X := 62) (fun s hs => hH s (by
              unfold hdL
              refine List.mem_cons_of_mem _ (List.mem_append_left _ ?_)
              rcases List.mem_append.1 hs with hs | hs
              · exact List.mem_append_left _ hs
              · obtain ⟨y, hy, rfl⟩ := List.mem_map.1 hs
                exact List.mem_append_right _ (List.mem_map.2 ⟨y, List.mem_of_mem_take hy, rfl⟩)))
            have hll : (cl.map dotS ++ (al.take i).map attS).length ≤ 8 := by rw [List.length_append, List.length_map, List.length_map, List.length_take]; omega
            generalize runS ids id tag (cl.map dotS ++ (al.take i).map attS) = Y at *
            (repeat' (first | (show wpListIn _ _ _ _ _ (_ :: _) _ _; first | (refine wx1 ?_; clear hk a; intro a hk) | (refine wx2 ?_ ?_ <;> (intro hp; clear hk a; intro a hk)) | (refine wx3 ?_; clear hk hS a; intro w b hS a hk) | (refine wx4 ?_; clear hk hS a; intro w hS a hk) | (refine wx5 ?_; clear hk hS a; intro w v hS a hk) | fail) | refine wx0 ?_ | (refine s_end hk ?_; clear hk a; intro a hk) | fail))
            refine sg hk (g_cat (s := ⟨#[32, 64]⟩) (r := nm) hk ?_ (hl := by simp only [ByteArray.size_append, maxLen]; omega)); clear hk a; intro a hk
            refine sg hk (g_cat (s := ⟨#[32, 64]⟩ ++ nm) (r := ⟨#[61]⟩) hk ?_ (hl := by simp only [ByteArray.size_append, maxLen]; omega)); clear hk a; intro a hk
            (repeat' (first | (show wpListIn _ _ _ _ _ (_ :: _) _ _; first | (refine wx1 ?_; clear hk a; intro a hk) | (refine wx2 ?_ ?_ <;> (intro hp; clear hk a; intro a hk)) | (refine wx3 ?_; clear hk hS a; intro w b hS a hk) | (refine wx4 ?_; clear hk hS a; intro w hS a hk) | (refine wx5 ?_; clear hk hS a; intro w v hS a hk) | fail) | refine wx0 ?_ | (refine s_end hk ?_; clear hk a; intro a hk) | fail))
            refine sg hk (g_cat (s := ⟨#[32, 64]⟩ ++ nm ++ ⟨#[61]⟩) (r := val) hk ?_ (hl := by simp only [ByteArray.size_append, maxLen]; omega)); clear hk a; intro a hk
            refine sg hk (g_cat (s := Y) (r := ⟨#[32, 64]⟩ ++ nm ++ ⟨#[61]⟩ ++ val) hk ?_ (hl := by simp only [ByteArray.size_append, maxLen]; omega)); clear hk a; intro a hk
            rw [← hst] at hk
            (repeat' (first | (show wpListIn _ _ _ _ _ (_ :: _) _ _; first | (refine wx1 ?_; clear hk a; intro a hk) | (refine wx2 ?_ ?_ <;> (intro hp; clear hk a; intro a hk)) | (refine wx3 ?_; clear hk hS a; intro w b hS a hk) | (refine wx4 ?_; clear hk hS a; intro w hS a hk) | (refine wx5 ?_; clear hk hS a; intro w v hS a hk) | fail) | refine wx0 ?_ | (refine s_end hk ?_; clear hk a; intro a hk) | fail))
            exact ⟨hil, (), hk.sd, hS.sb, trivial⟩
          · have hii : i = al.length := by omega
            subst hii
            rw [List.take_length] at hk
            have c3' := hS.rdT c3
            (repeat' (first | (show wpListIn _ _ _ _ _ (_ :: _) _ _; first | (refine wx1 ?_; clear hk a; intro a hk) | (refine wx2 ?_ ?_ <;> (intro hp; clear hk a; intro a hk)) | (refine wx3 ?_; clear hk hS a; intro w b hS a hk) | (refine wx4 ?_; clear hk hS a; intro w hS a hk) | (refine wx5 ?_; clear hk hS a; intro w v hS a hk) | fail) | refine wx0 ?_ | (refine s_end hk ?_; clear hk a; intro a hk) | fail))
            rw [show runS ids id tag (cl.map dotS ++ al.map attS) = runS ids id tag (cl.map dotS ++ al.map attS ++ (sl.take 0).map styS) by simp] at hk
            replace hk := Kn.kp [1, 2, 6, 64, 65, 66] hk
            refine wp_for sl.length (fun i _ => [(6, .string (runS ids id tag (cl.map dotS ++ al.map attS ++ (sl.take i).map styS))), (66, .int .i64 (i : Int))]) (fun _ _ => [pts b1 [.int .i64 id, .int .i64 k, .string tag, .string text, .slice a1 cl.length m1, .slice a2 al.length m2, .slice a3 sl.length m3, .slice a4 H.length m4] 48]) (fun _ _ => True) () hk (by repeat (first | exact trivial | refine ⟨rfl, ?_⟩)) hS.sb trivial ?_
            clear hk hS a c2' c3'
            rintro i - a w hi hk hS -
            have c3' := hS.rdT c3
            by_cases hil : i < sl.length
            · obtain ⟨⟨nm, z⟩, hx⟩ : ∃ x, sl[i]? = some x := ⟨_, List.getElem?_eq_getElem hil⟩
              have hcs := h8 _ (List.mem_of_getElem? hx)
              simp only at hcs
              have hzs := itoP_size hcs.2
              have hst : runS ids id tag (cl.map dotS ++ al.map attS ++ (sl.take (i + 1)).map styS) = runS ids id tag (cl.map dotS ++ al.map attS ++ (sl.take i).map styS) ++ (⟨#[32]⟩ ++ nm ++ ⟨#[61]⟩ ++ itoS z) := by rw [take_snoc hx, List.map_append, List.map_singleton, ← List.append_assoc, run_snoc, run_sty]
              have hrs := run_size ids id tag (cl.map dotS ++ al.map attS ++ (sl.take i).map styS)
              have hle := lenL_le (l := cl.map dotS ++ al.map attS ++ (sl.take i).map styS) (X := 62) (fun s hs => hH s (by
                unfold hdL
                refine List.mem_cons_of_mem _ ?_
                rcases List.mem_append.1 hs with hs | hs
                · exact List.mem_append_left _ hs
                · obtain ⟨y, hy, rfl⟩ := List.mem_map.1 hs
                  exact List.mem_append_right _ (List.mem_map.2 ⟨y, List.mem_of_mem_take hy, rfl⟩)))
              have hll : (cl.map dotS ++ al.map attS ++ (sl.take i).map styS).length ≤ 12 := by simp only [List.length_append, List.length_map, List.length_take]; omega
              generalize runS ids id tag (cl.map dotS ++ al.map attS ++ (sl.take i).map styS) = Y at *
              (repeat' (first | (show wpListIn _ _ _ _ _ (_ :: _) _ _; first | (refine wx1 ?_; clear hk a; intro a hk) | (refine wx2 ?_ ?_ <;> (intro hp; clear hk a; intro a hk)) | (refine wx3 ?_; clear hk hS a; intro w b hS a hk) | (refine wx4 ?_; clear hk hS a; intro w hS a hk) | (refine wx5 ?_; clear hk hS a; intro w v hS a hk) | fail) | refine wx0 ?_ | (refine s_end hk ?_; clear hk a; intro a hk) | fail))
              refine wp_drawn 10 mixed (by kernel_rfl) hk hS ?_; clear hk hS a
              (repeat' (first | (show ObxE _ _ _ _ _ _ _ _ _ (_ :: _) _ _ _; first | refine ox1 ?_ | (refine ox2 ?_ ?_ <;> intro hp) | fail) | fail))
              refine' obe_val (fun us a w hk hd hS => ?_) ?_; rotate_left; focus (have hk := Kn.vw hk (by repeat (first | exact VW.nil | apply VW.val rfl | apply VW.base rfl rfl | apply VW.res rfl | apply VW.upd rfl | apply VW.cpy rfl | apply VW.dep rfl | apply VW.fn rfl | apply VW.lnd rfl | apply VW.tak rfl)); exact g_cat (s := ⟨#[32]⟩) (r := nm) hk (same _ _) (hl := by simp only [ByteArray.size_append, maxLen]; omega))
              refine' obe_val (fun us a w hk hd hS => ?_) ?_; rotate_left; focus (have hk := Kn.vw hk (by repeat (first | exact VW.nil | apply VW.val rfl | apply VW.base rfl rfl | apply VW.res rfl | apply VW.upd rfl | apply VW.cpy rfl | apply VW.dep rfl | apply VW.fn rfl | apply VW.lnd rfl | apply VW.tak rfl)); exact g_cat (s := ⟨#[32]⟩ ++ nm) (r := ⟨#[61]⟩) hk (same _ _) (hl := by simp only [ByteArray.size_append, maxLen]; omega))
              (repeat' (first | (show ObxE _ _ _ _ _ _ _ _ _ (_ :: _) _ _ _; first | refine ox1 ?_ | (refine ox2 ?_ ?_ <;> intro hp) | fail) | fail))
              refine' obe_val (fun us a w hk hd hS => ?_) ?_; rotate_left; focus (have hk := Kn.vw hk (by repeat (first | exact VW.nil | apply VW.val rfl | apply VW.base rfl rfl | apply VW.res rfl | apply VW.upd rfl | apply VW.cpy rfl | apply VW.dep rfl | apply VW.fn rfl | apply VW.lnd rfl | apply VW.tak rfl)); exact g_callO hk (hf := by kernel_rfl) (hc := itoa_any z hcs.2.1 hcs.2.2 _ (ht.mono hS.below)) (h := fun _ _ h => h))
              refine' obe_val (fun us a w hk hd hS => ?_) ?_; rotate_left; focus (have hk := Kn.vw hk (by repeat (first | exact VW.nil | apply VW.val rfl | apply VW.base rfl rfl | apply VW.res rfl | apply VW.upd rfl | apply VW.cpy rfl | apply VW.dep rfl | apply VW.fn rfl | apply VW.lnd rfl | apply VW.tak rfl)); exact g_cat (s := ⟨#[32]⟩ ++ nm ++ ⟨#[61]⟩) (r := itoS z) hk (same _ _) (hl := by simp only [ByteArray.size_append, maxLen]; omega))
              refine' obe_val (fun us a w hk hd hS => ?_) ?_; rotate_left; focus (have hk := Kn.vw hk (by repeat (first | exact VW.nil | apply VW.val rfl | apply VW.base rfl rfl | apply VW.res rfl | apply VW.upd rfl | apply VW.cpy rfl | apply VW.dep rfl | apply VW.fn rfl | apply VW.lnd rfl | apply VW.tak rfl)); exact g_cat (s := Y) (r := ⟨#[32]⟩ ++ nm ++ ⟨#[61]⟩ ++ itoS z) hk (same _ _) (hl := by simp only [ByteArray.size_append, maxLen]; omega))
              refine obe_nil ⟨rfl, ?_⟩; intro us a w hk hS
              simp only [resE] at hS
              rw [← hst] at hk
              (repeat' (first | (show wpListIn _ _ _ _ _ (_ :: _) _ _; first | (refine wx1 ?_; clear hk a; intro a hk) | (refine wx2 ?_ ?_ <;> (intro hp; clear hk a; intro a hk)) | (refine wx3 ?_; clear hk hS a; intro w b hS a hk) | (refine wx4 ?_; clear hk hS a; intro w hS a hk) | (refine wx5 ?_; clear hk hS a; intro w v hS a hk) | fail) | refine wx0 ?_ | (refine s_end hk ?_; clear hk a; intro a hk) | fail))
              exact ⟨hil, (), hk.sd, hS.sb, trivial⟩
            · have hii : i = sl.length := by omega
              subst hii
              rw [List.take_length] at hk
              have c4' := hS.rdT c4
              (repeat' (first | (show wpListIn _ _ _ _ _ (_ :: _) _ _; first | (refine wx1 ?_; clear hk a; intro a hk) | (refine wx2 ?_ ?_ <;> (intro hp; clear hk a; intro a hk)) | (refine wx3 ?_; clear hk hS a; intro w b hS a hk) | (refine wx4 ?_; clear hk hS a; intro w hS a hk) | (refine wx5 ?_; clear hk hS a; intro w v hS a hk) | fail) | refine wx0 ?_ | (refine s_end hk ?_; clear hk a; intro a hk) | fail))
              rw [show runS ids id tag (cl.map dotS ++ al.map attS ++ sl.map styS) = runS ids id tag (cl.map dotS ++ al.map attS ++ sl.map styS ++ showL ids (kids.take 0)) by simp [showL]] at hk
              have hle := lenL_le (l := cl.map dotS ++ al.map attS ++ sl.map styS) (X := 62) (fun s hs => hH s (by
                unfold hdL
                exact List.mem_cons_of_mem _ hs))
              have hll : (cl.map dotS ++ al.map attS ++ sl.map styS).length ≤ 12 := by simp only [List.length_append, List.length_map]; omega
              generalize cl.map dotS ++ al.map attS ++ sl.map styS = A0 at *
              replace hk := Kn.kp [1, 6, 82, 83, 84] hk
              refine wp_for H.length (fun i _ => [(6, .string (runS ids id tag (A0 ++ showL ids (kids.take i)))), (84, .int .i64 (i : Int))]) (fun _ _ => []) (fun _ _ => True) () hk (by repeat (first | exact trivial | refine ⟨rfl, ?_⟩)) hS.sb trivial ?_
              clear hk hS a c3' c4'
              rintro i - a w hi hk hS -
              have c4' := hS.rdT c4
              by_cases hil : i < H.length
              · obtain ⟨tk, htk⟩ : ∃ t, kids[i]? = some t := ⟨_, List.getElem?_eq_getElem (by omega)⟩
                obtain ⟨hd0, hx⟩ : ∃ x, H[i]? = some x := ⟨_, List.getElem?_eq_getElem hil⟩
                have hTr := hF.2 i tk hd0 htk hx
                have hmk := List.mem_of_getElem? htk
                have hlt : SizeOf.sizeOf tk < n := by have := skid_lt (id := id) (k := k) (tag := tag) (text := text) (cl := cl) (at_ := al) (st := sl) hmk; omega
                have hck := scntL_mem hmk
                have hst : runS ids id tag (A0 ++ showL ids (kids.take (i + 1))) = runS ids id tag (A0 ++ showL ids (kids.take i)) ++ (⟨#[32]⟩ ++ showT ids tk) := by rw [showL_map, showL_map, take_snoc htk, List.map_append, List.map_singleton, ← List.append_assoc, run_snoc]
                have hrs := run_size ids id tag (A0 ++ showL ids (kids.take i))
                have hks := showL_size ids (kids.take i) (fun t ht => h9 t (List.mem_of_mem_take ht))
                have hkt := scntL_take kids i
                have hsk := show_size ids tk (h9 tk hmk)
                rw [lenL_app, List.length_append, showL_map, List.length_map, ← showL_map] at hrs
                generalize runS ids id tag (A0 ++ showL ids (kids.take i)) = Y at *
                obtain ⟨id', k', tag', text', ⟨x1, x2, x3⟩, ⟨y1, y2, y3⟩, ⟨z1, z2, z3⟩, ⟨u1, u2, u3⟩⟩ := hd0
                (repeat' (first | (show wpListIn _ _ _ _ _ (_ :: _) _ _; first | (refine wx1 ?_; clear hk a; intro a hk) | (refine wx2 ?_ ?_ <;> (intro hp; clear hk a; intro a hk)) | (refine wx3 ?_; clear hk hS a; intro w b hS a hk) | (refine wx4 ?_; clear hk hS a; intro w hS a hk) | (refine wx5 ?_; clear hk hS a; intro w v hS a hk) | fail) | refine wx0 ?_ | (refine s_end hk ?_; clear hk a; intro a hk) | fail))
                refine sg hk (g_callO hk (hf := by kernel_rfl) (hc := ih tk (id', k', tag', text', ⟨x1, x2, x3⟩, ⟨y1, y2, y3⟩, ⟨z1, z2, z3⟩, ⟨u1, u2, u3⟩) _ hlt (h9 tk hmk) (by omega) (hS.rdSr hTr) (ht.mono hS.below)) (h := ?_)); clear hk a; rintro _ w ⟨rfl, hS1⟩ a hk; replace hS := hS.call0 hS1; clear hS1
                refine sg hk (g_cat (s := ⟨#[32]⟩) (r := showT ids tk) hk ?_ (hl := by simp only [ByteArray.size_append, maxLen]; omega)); clear hk a; intro a hk
                refine sg hk (g_cat (s := Y) (r := ⟨#[32]⟩ ++ showT ids tk) hk ?_ (hl := by simp only [ByteArray.size_append, maxLen]; omega)); clear hk a; intro a hk
                rw [← hst] at hk
                (repeat' (first | (show wpListIn _ _ _ _ _ (_ :: _) _ _; first | (refine wx1 ?_; clear hk a; intro a hk) | (refine wx2 ?_ ?_ <;> (intro hp; clear hk a; intro a hk)) | (refine wx3 ?_; clear hk hS a; intro w b hS a hk) | (refine wx4 ?_; clear hk hS a; intro w hS a hk) | (refine wx5 ?_; clear hk hS a; intro w v hS a hk) | fail) | refine wx0 ?_ | (refine s_end hk ?_; clear hk a; intro a hk) | fail))
                exact ⟨hil, (), hk.sd, hS.sb, trivial⟩
              · have hii : i = kids.length := by omega
                subst hii
                rw [List.take_length] at hk
                (repeat' (first | (show wpListIn _ _ _ _ _ (_ :: _) _ _; first | (refine wx1 ?_; clear hk a; intro a hk) | (refine wx2 ?_ ?_ <;> (intro hp; clear hk a; intro a hk)) | (refine wx3 ?_; clear hk hS a; intro w b hS a hk) | (refine wx4 ?_; clear hk hS a; intro w hS a hk) | (refine wx5 ?_; clear hk hS a; intro w v hS a hk) | fail) | refine wx0 ?_ | (refine s_end hk ?_; clear hk a; intro a hk) | fail))
                refine sg hk (g_cat (s := runS ids id tag (A0 ++ showL ids kids)) (r := ⟨#[41]⟩) hk ?_ (hl := by simp only [ByteArray.size_append, maxLen]; omega)); clear hk a; intro a hk
                (repeat' (first | (show wpListIn _ _ _ _ _ (_ :: _) _ _; first | (refine wx1 ?_; clear hk a; intro a hk) | (refine wx2 ?_ ?_ <;> (intro hp; clear hk a; intro a hk)) | (refine wx3 ?_; clear hk hS a; intro w b hS a hk) | (refine wx4 ?_; clear hk hS a; intro w hS a hk) | (refine wx5 ?_; clear hk hS a; intro w v hS a hk) | fail) | refine wx0 ?_ | (refine s_end hk ?_; clear hk a; intro a hk) | fail))
                exact done1 hk (h := ⟨rfl, hS.nil⟩)
    · cases ids with
      | true =>
        (repeat' (first | (show wpListIn _ _ _ _ _ (_ :: _) _ _; first | (refine wx1 ?_; clear hk a; intro a hk) | (refine wx2 ?_ ?_ <;> (intro hp; clear hk a; intro a hk)) | (refine wx3 ?_; clear hk hS a; intro w b hS a hk) | (refine wx4 ?_; clear hk hS a; intro w hS a hk) | (refine wx5 ?_; clear hk hS a; intro w v hS a hk) | fail) | refine wx0 ?_ | (refine s_end hk ?_; clear hk a; intro a hk) | fail))
        refine sg hk (g_callO hk (hf := by kernel_rfl) (hc := itoa_any id h0.1 h0.2 _ (ht.mono hS.below)) (h := ?_)); clear hk a; rintro _ w ⟨rfl, hS1⟩ a hk; replace hS := hS.call0 hS1; clear hS1
        refine sg hk (g_cat (s := itoS id) (r := ⟨#[58]⟩) hk ?_ (hl := by simp only [ByteArray.size_append, maxLen]; omega)); clear hk a; intro a hk
        (repeat' (first | (show wpListIn _ _ _ _ _ (_ :: _) _ _; first | (refine wx1 ?_; clear hk a; intro a hk) | (refine wx2 ?_ ?_ <;> (intro hp; clear hk a; intro a hk)) | (refine wx3 ?_; clear hk hS a; intro w b hS a hk) | (refine wx4 ?_; clear hk hS a; intro w hS a hk) | (refine wx5 ?_; clear hk hS a; intro w v hS a hk) | fail) | refine wx0 ?_ | (refine s_end hk ?_; clear hk a; intro a hk) | fail))
        exact ⟨Kn.kp [1, 2, 5] hk, hS.sb⟩
      | false =>
        (repeat' (first | (show wpListIn _ _ _ _ _ (_ :: _) _ _; first | (refine wx1 ?_; clear hk a; intro a hk) | (refine wx2 ?_ ?_ <;> (intro hp; clear hk a; intro a hk)) | (refine wx3 ?_; clear hk hS a; intro w b hS a hk) | (refine wx4 ?_; clear hk hS a; intro w hS a hk) | (refine wx5 ?_; clear hk hS a; intro w v hS a hk) | fail) | refine wx0 ?_ | (refine s_end hk ?_; clear hk a; intro a hk) | fail))
        exact ⟨Kn.kp [1, 2, 5] hk, hS.sb⟩
end Go.Proofs.YtkcjkbnbblpomaaGreatDoor
