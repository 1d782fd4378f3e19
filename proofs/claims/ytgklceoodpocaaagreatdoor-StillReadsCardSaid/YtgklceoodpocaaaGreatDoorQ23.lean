/- Layer 9: a tree's text: the reference. Layer 9: trees that are the same, by the reference. Layer 9: trees as the document has them. Lists of numbers are compared. -/
import Derived.Test.YtgklceoodpocaaaGreatDoorQ22
import Derived.Test.YtgklceoodpocaaaGreatDoorQ11
import Derived.Test.YtgklceoodpocaaaGreatDoorQ19
import Derived.Test.YtgklceoodpocaaaGreatDoorQ09
import Derived.Test.YtgklceoodpocaaaGreatDoorQ10
import Derived.Test.YtgklceoodpocaaaGreatDoorQ08
import Derived.Test.YtgklceoodpocaaaGreatDoorQ07
set_option linter.all false
namespace Go.Proofs.YtgklceoodpocaaaGreatDoor
open Go.RowKit
set_option maxRecDepth 100000
attribute [local irreducible] Go.Code.wpIn Go.wpListIn Go.Calls Gives Go.Exit.then Go.Exit.inBlock Done ObxE
def runS (ids : Bool) (id : Int) (tag : ByteArray) (l : List ByteArray) : ByteArray := ⟨#[40]⟩ ++ ⟨(joinL ((lblS ids id ++ tag) :: l)).toArray⟩
theorem run_ext {a b : ByteArray} (h : a.data.toList = b.data.toList) : a = b := by
 cases a;cases b
 congr 1
 exact Array.toList_inj.1 h
theorem run_snoc (ids : Bool) (id : Int) (tag : ByteArray) (l : List ByteArray) (x : ByteArray) : runS ids id tag (l ++ [x]) = runS ids id tag l ++ (⟨#[32]⟩ ++ x) := by
 apply run_ext
 unfold runS
 simp only [joinL, joinT_snoc, ByteArray.data_append, Array.toList_append]
 simp
theorem run_nil (ids : Bool) (id : Int) (tag : ByteArray) : runS ids id tag [] = ⟨#[40]⟩ ++ lblS ids id ++ tag := by
 apply run_ext
 unfold runS
 simp only [joinL, joinT, ByteArray.data_append, Array.toList_append]
 simp
theorem run_dot (c : ByteArray) : (⟨#[32]⟩ : ByteArray) ++ dotS c = ⟨#[32, 46]⟩ ++ c := by
 apply run_ext
 simp only [dotS, ByteArray.data_append, Array.toList_append]
 simp
theorem run_att (n v : ByteArray) : (⟨#[32]⟩ : ByteArray) ++ attS (n, v) = ⟨#[32, 64]⟩ ++ n ++ ⟨#[61]⟩ ++ v := by
 apply run_ext
 simp only [attS, ByteArray.data_append, Array.toList_append]
 simp
theorem run_sty (n : ByteArray) (z : Int) : (⟨#[32]⟩ : ByteArray) ++ styS (n, z) = ⟨#[32]⟩ ++ n ++ ⟨#[61]⟩ ++ itoS z := by
 apply run_ext
 simp only [styS, ByteArray.data_append, Array.toList_append]
 simp
theorem run_size (ids : Bool) (id : Int) (tag : ByteArray) (l : List ByteArray) : (runS ids id tag l).size = 1 + (lblS ids id ++ tag).size + lenL l + l.length := by
 have e1 : ByteArray.size ⟨#[40]⟩ = 1 := rfl
 have hj : (ByteArray.mk (joinL ((lblS ids id ++ tag) :: l)).toArray).size = (joinL ((lblS ids id ++ tag) :: l)).length := by simp [ByteArray.size]
 unfold runS
 rw [ByteArray.size_append, e1, hj, joinL_size];omega
theorem showL_size (ids : Bool) : ∀ ts : List STree, (∀ t ∈ ts, SSm t) → lenL (showL ids ts) + ts.length ≤ 12000 * scntL ts
 | [], _ => by simp [showL, lenL, scntL]
 | u :: us, h => by
  have a1 := show_size ids u (h u (by simp))
  have a2 := showL_size ids us fun t ht => h t (by simp [ht])
  unfold lenL at *
  simp only [showL, List.map_cons, List.sum_cons, List.length_cons, scntL]
  omega
theorem scntL_take (ts : List STree) (i : Nat) : scntL (ts.take i) ≤ scntL ts := by
 induction ts generalizing i with
 | nil => simp [scntL]
 | cons t ts ih =>
  cases i with
  | zero => simp [scntL]
  | succ i => have := ih i;simp only [List.take_succ_cons, scntL];omega
set_option maxHeartbeats 8000000 in
theorem rshow9_any (ids : Bool) : ∀ (n : Nat) (t : STree) (h : SnH) (w0 : World), SizeOf.sizeOf t < n → SSm t → scnt t ≤ 70 → SrR w0 t h → TabW w0 → Calls Tryz.prog 12 #[snV h, .bool ids] w0 (Ret fun v w => v = .string (showT ids t) ∧ St w0 [] w)
 | 0, _, _, _, hn, _, _, _, _ => by omega
 | n + 1, t, h, w0, hn, hf, hc, hr, ht => by
  have ih := rshow9_any ids n
  obtain ⟨id, k, tag, text, cl, al, sl, kids, a1, m1, a2, m2, a3, m3, a4, m4, H, rfl, rfl, c1, c2, c3, c4, hF⟩ := hr.split
  have hsz := show_size ids _ hf
  obtain ⟨h0, h1, h2, h3, h4, h5, h6, h7, h8, h9⟩ := hf
  have hHk : H.length = kids.length := hF.1
  have e46 : ByteArray.size ⟨#[32, 46]⟩ = 2 := rfl
  have e39 := sz39
  have e40 := sz40
  have e41 := sz41
  have e58 := sz58
  have e61 := sz61
  have e64 : ByteArray.size ⟨#[32, 64]⟩ = 2 := rfl
  have e32 : ByteArray.size ⟨#[32]⟩ = 1 := rfl
  have hito := itoP_size h0
  have hlb := lbl_size (ids := ids) h0
  simp only [scnt] at hc
  have hkc := scntL_len kids
  have hH := hd_sizes (ids := ids) h0 h1 h4 h6 h8
  have hlt0 : (lblS ids id ++ tag).size ≤ 42 := by rw [ByteArray.size_append];omega
  show Calls Tryz.prog 12 #[.agg #[.int .i64 id, .int .i64 k, .string tag, .string text, .slice a1 cl.length m1, .slice a2 al.length m2, .slice a3 sl.length m3, .slice a4 H.length m4], .bool ids] w0 _
  refine enter Tryz.func12 rfl Tryz.ntmps12 rfl (fun a hk => ?_);have hS := St.refl w0
  refine wpIn_seq ?_;refine wpIn_region_lit ?_
  refine st_box hk hS ?_;clear hk hS a;intro w b1 hS a hk
  (repeat' (first|((first|refine wx1 ?_|refine wx2 ?_ ?_<;>intro hp|refine s_end hk ?_)<;>(clear hk a;intro a hk))|((first|refine wx3 ?_;intro w b|refine wx4 ?_;intro w|refine wx5 ?_;intro w v);clear hk hS a;intro hS a hk)|refine wx0 ?_|fail))
  refine wp_join (fun a w => Kn [] 97 a [(1, .bool ids), (2, .pointer (some ⟨b1, 0, none⟩)), (5, .string (lblS ids id))] ∧ St w0 [pts b1 [.int .i64 id, .int .i64 k, .string tag, .string text, .slice a1 cl.length m1, .slice a2 al.length m2, .slice a3 sl.length m3, .slice a4 H.length m4] 49] w) ?_ ?_
  ·clear hk hS a
   rintro a w ⟨hk, hS⟩
   by_cases hk1 : k = 1
   ·rw [showT, if_pos hk1]
    (repeat' (first|((first|refine wx1 ?_|refine wx2 ?_ ?_<;>intro hp|refine s_end hk ?_)<;>(clear hk a;intro a hk))|((first|refine wx3 ?_;intro w b|refine wx4 ?_;intro w|refine wx5 ?_;intro w v);clear hk hS a;intro hS a hk)|refine wx0 ?_|fail))
    refine sg hk (g_cat (s := lblS ids id) (r := ⟨#[39]⟩) hk ?_ (hl := by simp only [ByteArray.size_append, maxLen];omega));clear hk a;intro a hk
    (repeat' (first|((first|refine wx1 ?_|refine wx2 ?_ ?_<;>intro hp|refine s_end hk ?_)<;>(clear hk a;intro a hk))|((first|refine wx3 ?_;intro w b|refine wx4 ?_;intro w|refine wx5 ?_;intro w v);clear hk hS a;intro hS a hk)|refine wx0 ?_|fail))
    refine sg hk (g_cat (s := lblS ids id ++ ⟨#[39]⟩) (r := text) hk ?_ (hl := by simp only [ByteArray.size_append, maxLen];omega));clear hk a;intro a hk
    refine sg hk (g_cat (s := lblS ids id ++ ⟨#[39]⟩ ++ text) (r := ⟨#[39]⟩) hk ?_ (hl := by simp only [ByteArray.size_append, maxLen];omega));clear hk a;intro a hk
    (repeat' (first|((first|refine wx1 ?_|refine wx2 ?_ ?_<;>intro hp|refine s_end hk ?_)<;>(clear hk a;intro a hk))|((first|refine wx3 ?_;intro w b|refine wx4 ?_;intro w|refine wx5 ?_;intro w v);clear hk hS a;intro hS a hk)|refine wx0 ?_|fail))
    exact done1 hk (h := ⟨rfl, hS.nil⟩)
   ·have hfin : showT ids (.mk id k tag text cl al sl kids) = runS ids id tag ((cl.map dotS ++ al.map attS ++ sl.map styS) ++ showL ids kids) ++ ⟨#[41]⟩ := by
     rw [showT, if_neg hk1]
     rfl
    rw [hfin] at hsz ⊢
    rw [ByteArray.size_append] at hsz
    simp only [scnt] at hsz
    clear hfin
    have c1' := hS.rdT c1
    (repeat' (first|((first|refine wx1 ?_|refine wx2 ?_ ?_<;>intro hp|refine s_end hk ?_)<;>(clear hk a;intro a hk))|((first|refine wx3 ?_;intro w b|refine wx4 ?_;intro w|refine wx5 ?_;intro w v);clear hk hS a;intro hS a hk)|refine wx0 ?_|fail))
    refine sg hk (g_cat (s := ⟨#[40]⟩) (r := lblS ids id) hk ?_ (hl := by simp only [ByteArray.size_append, maxLen];omega));clear hk a;intro a hk
    (repeat' (first|((first|refine wx1 ?_|refine wx2 ?_ ?_<;>intro hp|refine s_end hk ?_)<;>(clear hk a;intro a hk))|((first|refine wx3 ?_;intro w b|refine wx4 ?_;intro w|refine wx5 ?_;intro w v);clear hk hS a;intro hS a hk)|refine wx0 ?_|fail))
    refine sg hk (g_cat (s := ⟨#[40]⟩ ++ lblS ids id) (r := tag) hk ?_ (hl := by simp only [ByteArray.size_append, maxLen];omega));clear hk a;intro a hk
    rw [← run_nil] at hk
    (repeat' (first|((first|refine wx1 ?_|refine wx2 ?_ ?_<;>intro hp|refine s_end hk ?_)<;>(clear hk a;intro a hk))|((first|refine wx3 ?_;intro w b|refine wx4 ?_;intro w|refine wx5 ?_;intro w v);clear hk hS a;intro hS a hk)|refine wx0 ?_|fail))
    replace hk := Kn.kp [1, 2, 6, 35, 36, 37] hk
    refine wp_for cl.length (fun i _ => [(6, .string (runS ids id tag ((cl.take i).map dotS))), (37, .int .i64 (i : Int))]) (fun _ _ => [pts b1 [.int .i64 id, .int .i64 k, .string tag, .string text, .slice a1 cl.length m1, .slice a2 al.length m2, .slice a3 sl.length m3, .slice a4 H.length m4] 49]) (fun _ _ => True) () hk skx hS.sb trivial ?_
    clear hk hS a c1'
    rintro i - a w hi hk hS -
    have c1' := hS.rdT c1
    by_cases hil : i < cl.length
    ·obtain ⟨c, hx⟩ : ∃ x, cl[i]? = some x := ⟨_, List.getElem?_eq_getElem hil⟩
     have hcs := h4 c (List.mem_of_getElem? hx)
     have hst : runS ids id tag ((cl.take (i + 1)).map dotS) = runS ids id tag ((cl.take i).map dotS) ++ (⟨#[32, 46]⟩ ++ c) := by rw [take_snoc hx, List.map_append, List.map_singleton, run_snoc, run_dot]
     have hrs := run_size ids id tag ((cl.take i).map dotS)
     have hle := lenL_le (l := (cl.take i).map dotS) (X := 62) (fun s hs => hH s (by
      obtain ⟨y, hy, rfl⟩ := List.mem_map.1 hs
      unfold hdL
      exact List.mem_cons_of_mem _ (List.mem_append_left _ (List.mem_append_left _ (List.mem_map.2 ⟨y, List.mem_of_mem_take hy, rfl⟩)))))
     have hll : ((cl.take i).map dotS).length ≤ 40 := by rw [List.length_map, List.length_take];omega
     generalize runS ids id tag ((cl.take i).map dotS) = Y at *
     (repeat' (first|((first|refine wx1 ?_|refine wx2 ?_ ?_<;>intro hp|refine s_end hk ?_)<;>(clear hk a;intro a hk))|((first|refine wx3 ?_;intro w b|refine wx4 ?_;intro w|refine wx5 ?_;intro w v);clear hk hS a;intro hS a hk)|refine wx0 ?_|fail))
     refine sg hk (g_cat (s := ⟨#[32, 46]⟩) (r := c) hk ?_ (hl := by simp only [ByteArray.size_append, maxLen];omega));clear hk a;intro a hk
     refine sg hk (g_cat (s := Y) (r := ⟨#[32, 46]⟩ ++ c) hk ?_ (hl := by simp only [ByteArray.size_append, maxLen];omega));clear hk a;intro a hk
     rw [← hst] at hk
     (repeat' (first|((first|refine wx1 ?_|refine wx2 ?_ ?_<;>intro hp|refine s_end hk ?_)<;>(clear hk a;intro a hk))|((first|refine wx3 ?_;intro w b|refine wx4 ?_;intro w|refine wx5 ?_;intro w v);clear hk hS a;intro hS a hk)|refine wx0 ?_|fail))
     exact ⟨hil, (), hk.sd, hS.sb, trivial⟩
    ·have hii : i = cl.length := by omega
     subst hii
     rw [List.take_length] at hk
     have c2' := hS.rdT c2
     (repeat' (first|((first|refine wx1 ?_|refine wx2 ?_ ?_<;>intro hp|refine s_end hk ?_)<;>(clear hk a;intro a hk))|((first|refine wx3 ?_;intro w b|refine wx4 ?_;intro w|refine wx5 ?_;intro w v);clear hk hS a;intro hS a hk)|refine wx0 ?_|fail))
     rw [show runS ids id tag (cl.map dotS) = runS ids id tag (cl.map dotS ++ (al.take 0).map attS) by simp] at hk
     replace hk := Kn.kp [1, 2, 6, 47, 48, 49] hk
     refine wp_for al.length (fun i _ => [(6, .string (runS ids id tag (cl.map dotS ++ (al.take i).map attS))), (49, .int .i64 (i : Int))]) (fun _ _ => [pts b1 [.int .i64 id, .int .i64 k, .string tag, .string text, .slice a1 cl.length m1, .slice a2 al.length m2, .slice a3 sl.length m3, .slice a4 H.length m4] 49]) (fun _ _ => True) () hk skx hS.sb trivial ?_
     clear hk hS a c1' c2'
     rintro i - a w hi hk hS -
     have c2' := hS.rdT c2
     by_cases hil : i < al.length
     ·obtain ⟨⟨nm, val⟩, hx⟩ : ∃ x, al[i]? = some x := ⟨_, List.getElem?_eq_getElem hil⟩
      have hcs := h6 _ (List.mem_of_getElem? hx)
      simp only at hcs
      have hst : runS ids id tag (cl.map dotS ++ (al.take (i + 1)).map attS) = runS ids id tag (cl.map dotS ++ (al.take i).map attS) ++ (⟨#[32, 64]⟩ ++ nm ++ ⟨#[61]⟩ ++ val) := by rw [take_snoc hx, List.map_append, List.map_singleton, ← List.append_assoc, run_snoc, run_att]
      have hrs := run_size ids id tag (cl.map dotS ++ (al.take i).map attS)
      have hle := lenL_le (l := cl.map dotS ++ (al.take i).map attS) (X := 62) (fun s hs => hH s (by
       unfold hdL
       refine List.mem_cons_of_mem _ (List.mem_append_left _ ?_)
       rcases List.mem_append.1 hs with hs | hs
       ·exact List.mem_append_left _ hs
       ·obtain ⟨y, hy, rfl⟩ := List.mem_map.1 hs
        exact List.mem_append_right _ (List.mem_map.2 ⟨y, List.mem_of_mem_take hy, rfl⟩)))
      have hll : (cl.map dotS ++ (al.take i).map attS).length ≤ 80 := by rw [List.length_append, List.length_map, List.length_map, List.length_take];omega
      generalize runS ids id tag (cl.map dotS ++ (al.take i).map attS) = Y at *
      (repeat' (first|((first|refine wx1 ?_|refine wx2 ?_ ?_<;>intro hp|refine s_end hk ?_)<;>(clear hk a;intro a hk))|((first|refine wx3 ?_;intro w b|refine wx4 ?_;intro w|refine wx5 ?_;intro w v);clear hk hS a;intro hS a hk)|refine wx0 ?_|fail))
      refine sg hk (g_cat (s := ⟨#[32, 64]⟩) (r := nm) hk ?_ (hl := by simp only [ByteArray.size_append, maxLen];omega));clear hk a;intro a hk
      refine sg hk (g_cat (s := ⟨#[32, 64]⟩ ++ nm) (r := ⟨#[61]⟩) hk ?_ (hl := by simp only [ByteArray.size_append, maxLen];omega));clear hk a;intro a hk
      (repeat' (first|((first|refine wx1 ?_|refine wx2 ?_ ?_<;>intro hp|refine s_end hk ?_)<;>(clear hk a;intro a hk))|((first|refine wx3 ?_;intro w b|refine wx4 ?_;intro w|refine wx5 ?_;intro w v);clear hk hS a;intro hS a hk)|refine wx0 ?_|fail))
      refine sg hk (g_cat (s := ⟨#[32, 64]⟩ ++ nm ++ ⟨#[61]⟩) (r := val) hk ?_ (hl := by simp only [ByteArray.size_append, maxLen];omega));clear hk a;intro a hk
      refine sg hk (g_cat (s := Y) (r := ⟨#[32, 64]⟩ ++ nm ++ ⟨#[61]⟩ ++ val) hk ?_ (hl := by simp only [ByteArray.size_append, maxLen];omega));clear hk a;intro a hk
      rw [← hst] at hk
      (repeat' (first|((first|refine wx1 ?_|refine wx2 ?_ ?_<;>intro hp|refine s_end hk ?_)<;>(clear hk a;intro a hk))|((first|refine wx3 ?_;intro w b|refine wx4 ?_;intro w|refine wx5 ?_;intro w v);clear hk hS a;intro hS a hk)|refine wx0 ?_|fail))
      exact ⟨hil, (), hk.sd, hS.sb, trivial⟩
     ·have hii : i = al.length := by omega
      subst hii
      rw [List.take_length] at hk
      have c3' := hS.rdT c3
      (repeat' (first|((first|refine wx1 ?_|refine wx2 ?_ ?_<;>intro hp|refine s_end hk ?_)<;>(clear hk a;intro a hk))|((first|refine wx3 ?_;intro w b|refine wx4 ?_;intro w|refine wx5 ?_;intro w v);clear hk hS a;intro hS a hk)|refine wx0 ?_|fail))
      rw [show runS ids id tag (cl.map dotS ++ al.map attS) = runS ids id tag (cl.map dotS ++ al.map attS ++ (sl.take 0).map styS) by simp] at hk
      replace hk := Kn.kp [1, 2, 6, 64, 65, 66] hk
      refine wp_for sl.length (fun i _ => [(6, .string (runS ids id tag (cl.map dotS ++ al.map attS ++ (sl.take i).map styS))), (66, .int .i64 (i : Int))]) (fun _ _ => [pts b1 [.int .i64 id, .int .i64 k, .string tag, .string text, .slice a1 cl.length m1, .slice a2 al.length m2, .slice a3 sl.length m3, .slice a4 H.length m4] 49]) (fun _ _ => True) () hk skx hS.sb trivial ?_
      clear hk hS a c2' c3'
      rintro i - a w hi hk hS -
      have c3' := hS.rdT c3
      by_cases hil : i < sl.length
      ·obtain ⟨⟨nm, z⟩, hx⟩ : ∃ x, sl[i]? = some x := ⟨_, List.getElem?_eq_getElem hil⟩
       have hcs := h8 _ (List.mem_of_getElem? hx)
       simp only at hcs
       have hzs := itoP_size hcs.2
       have hst : runS ids id tag (cl.map dotS ++ al.map attS ++ (sl.take (i + 1)).map styS) = runS ids id tag (cl.map dotS ++ al.map attS ++ (sl.take i).map styS) ++ (⟨#[32]⟩ ++ nm ++ ⟨#[61]⟩ ++ itoS z) := by rw [take_snoc hx, List.map_append, List.map_singleton, ← List.append_assoc, run_snoc, run_sty]
       have hrs := run_size ids id tag (cl.map dotS ++ al.map attS ++ (sl.take i).map styS)
       have hle := lenL_le (l := cl.map dotS ++ al.map attS ++ (sl.take i).map styS) (X := 62) (fun s hs => hH s (by
        unfold hdL
        refine List.mem_cons_of_mem _ ?_
        rcases List.mem_append.1 hs with hs | hs
        ·exact List.mem_append_left _ hs
        ·obtain ⟨y, hy, rfl⟩ := List.mem_map.1 hs
         exact List.mem_append_right _ (List.mem_map.2 ⟨y, List.mem_of_mem_take hy, rfl⟩)))
       have hll : (cl.map dotS ++ al.map attS ++ (sl.take i).map styS).length ≤ 120 := by simp only [List.length_append, List.length_map, List.length_take];omega
       generalize runS ids id tag (cl.map dotS ++ al.map attS ++ (sl.take i).map styS) = Y at *
       (repeat' (first|((first|refine wx1 ?_|refine wx2 ?_ ?_<;>intro hp|refine s_end hk ?_)<;>(clear hk a;intro a hk))|((first|refine wx3 ?_;intro w b|refine wx4 ?_;intro w|refine wx5 ?_;intro w v);clear hk hS a;intro hS a hk)|refine wx0 ?_|fail))
       refine wp_drawn 10 mixed (by kernel_rfl) hk hS ?_;clear hk hS a
       (repeat' (first|(show ObxE _ _ _ _ _ _ _ _ _ (_::_) _ _ _;first|refine ox1 ?_|refine ox2 ?_ ?_<;>intro hp)|fail))
       refine' obe_val (fun us a w hk hd hS => ?_) ?_;rotate_left;focus (have hk := Kn.vw hk vwx;exact g_cat (s := ⟨#[32]⟩) (r := nm) hk (same _ _) (hl := by simp only [ByteArray.size_append, maxLen];omega))
       refine' obe_val (fun us a w hk hd hS => ?_) ?_;rotate_left;focus (have hk := Kn.vw hk vwx;exact g_cat (s := ⟨#[32]⟩ ++ nm) (r := ⟨#[61]⟩) hk (same _ _) (hl := by simp only [ByteArray.size_append, maxLen];omega))
       (repeat' (first|(show ObxE _ _ _ _ _ _ _ _ _ (_::_) _ _ _;first|refine ox1 ?_|refine ox2 ?_ ?_<;>intro hp)|fail))
       refine' obe_val (fun us a w hk hd hS => ?_) ?_;rotate_left;focus (have hk := Kn.vw hk vwx;exact g_callO hk (hf := by kernel_rfl) (hc := itoa_any z hcs.2.1 hcs.2.2 _ (ht.mono hS.below)) (h := fun _ _ h => h))
       refine' obe_val (fun us a w hk hd hS => ?_) ?_;rotate_left;focus (have hk := Kn.vw hk vwx;exact g_cat (s := ⟨#[32]⟩ ++ nm ++ ⟨#[61]⟩) (r := itoS z) hk (same _ _) (hl := by simp only [ByteArray.size_append, maxLen];omega))
       refine' obe_val (fun us a w hk hd hS => ?_) ?_;rotate_left;focus (have hk := Kn.vw hk vwx;exact g_cat (s := Y) (r := ⟨#[32]⟩ ++ nm ++ ⟨#[61]⟩ ++ itoS z) hk (same _ _) (hl := by simp only [ByteArray.size_append, maxLen];omega))
       refine obe_nil ⟨rfl, ?_⟩;intro us a w hk hS
       simp only [resE] at hS
       rw [← hst] at hk
       (repeat' (first|((first|refine wx1 ?_|refine wx2 ?_ ?_<;>intro hp|refine s_end hk ?_)<;>(clear hk a;intro a hk))|((first|refine wx3 ?_;intro w b|refine wx4 ?_;intro w|refine wx5 ?_;intro w v);clear hk hS a;intro hS a hk)|refine wx0 ?_|fail))
       exact ⟨hil, (), hk.sd, hS.sb, trivial⟩
      ·have hii : i = sl.length := by omega
       subst hii
       rw [List.take_length] at hk
       have c4' := hS.rdT c4
       (repeat' (first|((first|refine wx1 ?_|refine wx2 ?_ ?_<;>intro hp|refine s_end hk ?_)<;>(clear hk a;intro a hk))|((first|refine wx3 ?_;intro w b|refine wx4 ?_;intro w|refine wx5 ?_;intro w v);clear hk hS a;intro hS a hk)|refine wx0 ?_|fail))
       rw [show runS ids id tag (cl.map dotS ++ al.map attS ++ sl.map styS) = runS ids id tag (cl.map dotS ++ al.map attS ++ sl.map styS ++ showL ids (kids.take 0)) by simp [showL]] at hk
       have hle := lenL_le (l := cl.map dotS ++ al.map attS ++ sl.map styS) (X := 62) (fun s hs => hH s (by
        unfold hdL
        exact List.mem_cons_of_mem _ hs))
       have hll : (cl.map dotS ++ al.map attS ++ sl.map styS).length ≤ 120 := by simp only [List.length_append, List.length_map];omega
       generalize cl.map dotS ++ al.map attS ++ sl.map styS = A0 at *
       replace hk := Kn.kp [1, 6, 82, 83, 84] hk
       refine wp_for H.length (fun i _ => [(6, .string (runS ids id tag (A0 ++ showL ids (kids.take i)))), (84, .int .i64 (i : Int))]) (fun _ _ => []) (fun _ _ => True) () hk skx hS.sb trivial ?_
       clear hk hS a c3' c4'
       rintro i - a w hi hk hS -
       have c4' := hS.rdT c4
       by_cases hil : i < H.length
       ·obtain ⟨tk, htk⟩ : ∃ t, kids[i]? = some t := ⟨_, List.getElem?_eq_getElem (by omega)⟩
        obtain ⟨hd0, hx⟩ : ∃ x, H[i]? = some x := ⟨_, List.getElem?_eq_getElem hil⟩
        have hTr := hF.2 i tk hd0 htk hx
        have hmk := List.mem_of_getElem? htk
        have hlt : SizeOf.sizeOf tk < n := by have := skid_lt (id := id) (k := k) (tag := tag) (text := text) (cl := cl) (at_ := al) (st := sl) hmk;omega
        have hck := scntL_mem hmk
        have hst : runS ids id tag (A0 ++ showL ids (kids.take (i + 1))) = runS ids id tag (A0 ++ showL ids (kids.take i)) ++ (⟨#[32]⟩ ++ showT ids tk) := by rw [showL_map, showL_map, take_snoc htk, List.map_append, List.map_singleton, ← List.append_assoc, run_snoc]
        have hrs := run_size ids id tag (A0 ++ showL ids (kids.take i))
        have hks := showL_size ids (kids.take i) (fun t ht => h9 t (List.mem_of_mem_take ht))
        have hkt := scntL_take kids i
        have hsk := show_size ids tk (h9 tk hmk)
        rw [lenL_app, List.length_append, showL_map, List.length_map, ← showL_map] at hrs
        generalize runS ids id tag (A0 ++ showL ids (kids.take i)) = Y at *
        obtain ⟨id', k', tag', text', ⟨x1, x2, x3⟩, ⟨y1, y2, y3⟩, ⟨z1, z2, z3⟩, ⟨u1, u2, u3⟩⟩ := hd0
        (repeat' (first|((first|refine wx1 ?_|refine wx2 ?_ ?_<;>intro hp|refine s_end hk ?_)<;>(clear hk a;intro a hk))|((first|refine wx3 ?_;intro w b|refine wx4 ?_;intro w|refine wx5 ?_;intro w v);clear hk hS a;intro hS a hk)|refine wx0 ?_|fail))
        refine sg hk (g_callO hk (hf := by kernel_rfl) (hc := ih tk (id', k', tag', text', ⟨x1, x2, x3⟩, ⟨y1, y2, y3⟩, ⟨z1, z2, z3⟩, ⟨u1, u2, u3⟩) _ hlt (h9 tk hmk) (by omega) (hS.rdSr hTr) (ht.mono hS.below)) (h := ?_));clear hk a;rintro _ w ⟨rfl, hS1⟩ a hk;replace hS := hS.call0 hS1;clear hS1
        refine sg hk (g_cat (s := ⟨#[32]⟩) (r := showT ids tk) hk ?_ (hl := by simp only [ByteArray.size_append, maxLen];omega));clear hk a;intro a hk
        refine sg hk (g_cat (s := Y) (r := ⟨#[32]⟩ ++ showT ids tk) hk ?_ (hl := by simp only [ByteArray.size_append, maxLen];omega));clear hk a;intro a hk
        rw [← hst] at hk
        (repeat' (first|((first|refine wx1 ?_|refine wx2 ?_ ?_<;>intro hp|refine s_end hk ?_)<;>(clear hk a;intro a hk))|((first|refine wx3 ?_;intro w b|refine wx4 ?_;intro w|refine wx5 ?_;intro w v);clear hk hS a;intro hS a hk)|refine wx0 ?_|fail))
        exact ⟨hil, (), hk.sd, hS.sb, trivial⟩
       ·have hii : i = kids.length := by omega
        subst hii
        rw [List.take_length] at hk
        (repeat' (first|((first|refine wx1 ?_|refine wx2 ?_ ?_<;>intro hp|refine s_end hk ?_)<;>(clear hk a;intro a hk))|((first|refine wx3 ?_;intro w b|refine wx4 ?_;intro w|refine wx5 ?_;intro w v);clear hk hS a;intro hS a hk)|refine wx0 ?_|fail))
        refine sg hk (g_cat (s := runS ids id tag (A0 ++ showL ids kids)) (r := ⟨#[41]⟩) hk ?_ (hl := by simp only [ByteArray.size_append, maxLen];omega));clear hk a;intro a hk
        (repeat' (first|((first|refine wx1 ?_|refine wx2 ?_ ?_<;>intro hp|refine s_end hk ?_)<;>(clear hk a;intro a hk))|((first|refine wx3 ?_;intro w b|refine wx4 ?_;intro w|refine wx5 ?_;intro w v);clear hk hS a;intro hS a hk)|refine wx0 ?_|fail))
        exact done1 hk (h := ⟨rfl, hS.nil⟩)
  ·cases ids with
   | true =>
    (repeat' (first|((first|refine wx1 ?_|refine wx2 ?_ ?_<;>intro hp|refine s_end hk ?_)<;>(clear hk a;intro a hk))|((first|refine wx3 ?_;intro w b|refine wx4 ?_;intro w|refine wx5 ?_;intro w v);clear hk hS a;intro hS a hk)|refine wx0 ?_|fail))
    refine sg hk (g_callO hk (hf := by kernel_rfl) (hc := itoa_any id h0.1 h0.2 _ (ht.mono hS.below)) (h := ?_));clear hk a;rintro _ w ⟨rfl, hS1⟩ a hk;replace hS := hS.call0 hS1;clear hS1
    refine sg hk (g_cat (s := itoS id) (r := ⟨#[58]⟩) hk ?_ (hl := by simp only [ByteArray.size_append, maxLen];omega));clear hk a;intro a hk
    (repeat' (first|((first|refine wx1 ?_|refine wx2 ?_ ?_<;>intro hp|refine s_end hk ?_)<;>(clear hk a;intro a hk))|((first|refine wx3 ?_;intro w b|refine wx4 ?_;intro w|refine wx5 ?_;intro w v);clear hk hS a;intro hS a hk)|refine wx0 ?_|fail))
    exact ⟨Kn.kp [1, 2, 5] hk, hS.sb⟩
   | false =>
    (repeat' (first|((first|refine wx1 ?_|refine wx2 ?_ ?_<;>intro hp|refine s_end hk ?_)<;>(clear hk a;intro a hk))|((first|refine wx3 ?_;intro w b|refine wx4 ?_;intro w|refine wx5 ?_;intro w v);clear hk hS a;intro hS a hk)|refine wx0 ?_|fail))
    exact ⟨Kn.kp [1, 2, 5] hk, hS.sb⟩
end Go.Proofs.YtgklceoodpocaaaGreatDoor
namespace Go.Proofs.YtgklceoodpocaaaGreatDoor
open Go.RowKit
set_option maxRecDepth 100000
attribute [local irreducible] Go.Code.wpIn Go.wpListIn Go.Calls Gives Go.Exit.then Go.Exit.inBlock Done ObxE
abbrev rtreeV (id k : Int) (tag text : ByteArray) (a1 : Option Addr) (n1 m1 : Nat) (a2 : Option Addr) (n2 m2 : Nat) (a3 : Option Addr) (n3 m3 : Nat) (a4 : Option Addr) (n4 m4 : Nat) : Value :=
 .agg #[.int .i64 id, .int .i64 k, .string tag, .string text, .slice a1 n1 m1, .slice a2 n2 m2, .slice a3 n3 m3, .slice a4 n4 m4]
set_option maxHeartbeats 8000000 in
theorem sameR9_any : ∀ (n : Nat) (t u : STree) (h g : SnH) (w0 : World), SizeOf.sizeOf t < n → SFits t → SFits u → SrR w0 t h → SrR w0 u g → Calls Tryz.prog 32 #[snV h, snV g] w0 (Ret fun v w => v = .bool (eqS t u) ∧ St w0 [] w)
 | 0, _, _, _, _, _, hn, _, _, _, _ => by omega
 | n + 1, t, u, h, g, w0, hn, hf, hf', hr, hr' => by
  have ih := sameR9_any n
  obtain ⟨id, k, tag, text, cl, al, sl, kids, a1, m1, a2, m2, a3, m3, a4, m4, H, rfl, rfl, c1, c2, c3, c4, hF⟩ := hr.split
  obtain ⟨id', k', tag', text', cl', al', sl', kids', b1', n1, b2', n2, b3', n3, b4', n4, G, rfl, rfl, g1, g2, g3, g4, hG⟩ := hr'.split
  obtain ⟨l1, l2, l3, l4, l5⟩ := hf
  obtain ⟨l1', l2', l3', l4', l5'⟩ := hf'
  have hHk : H.length = kids.length := hF.1
  have hGk : G.length = kids'.length := hG.1
  show Calls Tryz.prog 32 #[rtreeV id k tag text a1 cl.length m1 a2 al.length m2 a3 sl.length m3 a4 H.length m4, rtreeV id' k' tag' text' b1' cl'.length n1 b2' al'.length n2 b3' sl'.length n3 b4' G.length n4] w0 _
  have hiff := eqS_iff (id := id) (id' := id') (k := k) (k' := k') (tag := tag) (tag' := tag') (text := text) (text' := text') (cl := cl) (cl' := cl') (al := al) (al' := al') (sl := sl) (sl' := sl') (kids := kids) (kids' := kids')
  rw [eqSL_iff] at hiff
  refine enter Tryz.func32 rfl Tryz.ntmps32 rfl (fun a hk => ?_);have hS := St.refl w0
  refine wpIn_seq ?_;refine wpIn_region_lit ?_
  refine st_box hk hS ?_;clear hk hS a;intro w b1 hS a hk
  refine st_box hk hS ?_;clear hk hS a;intro w b2 hS a hk
  (repeat' (first|((first|refine wx1 ?_|refine wx2 ?_ ?_<;>intro hp|refine s_end hk ?_)<;>(clear hk a;intro a hk))|((first|refine wx3 ?_;intro w b|refine wx4 ?_;intro w|refine wx5 ?_;intro w v);clear hk hS a;intro hS a hk)|refine wx0 ?_|fail))
  rotate_left
  all_goals try (
   refine done1 hk (h := ⟨congrArg Value.bool (eqS_false fun hh => ?_).symm, hS.nil⟩)
   obtain ⟨⟨q1, q2, q3, q4, q5, q6⟩, q9, q10⟩ := hiff.1 hh
   first
    | exact absurd q1 (by assumption)
    | exact absurd q2 (by assumption)
    | exact absurd q3 (by assumption)
    | (have := congrArg List.length q4;omega)
    | (have := congrArg List.length q5;omega)
    | (have := congrArg List.length q6;omega)
    | omega)
  have hlc : cl.length = cl'.length := by omega
  have hla : al.length = al'.length := by omega
  have hls : sl.length = sl'.length := by omega
  have hlk : H.length = G.length := by omega
  have hb1 : k = k' := by assumption
  have hb2 : tag = tag' := by assumption
  have hb4 : text = text' := by assumption
  replace hk := Kn.kp [2, 3, 66, 67] hk
  refine wp_for cl.length (fun i _ => [(67, .int .i64 (i : Int))]) (fun _ _ => [pts b2 [.int .i64 id', .int .i64 k', .string tag', .string text', .slice b1' cl'.length n1, .slice b2' al'.length n2, .slice b3' sl'.length n3, .slice b4' G.length n4] 49, pts b1 [.int .i64 id, .int .i64 k, .string tag, .string text, .slice a1 cl.length m1, .slice a2 al.length m2, .slice a3 sl.length m3, .slice a4 H.length m4] 49]) (fun i _ => ∀ j, j < i → cl[j]? = cl'[j]?) () hk skx hS.sb (fun j hj => by omega) ?_
  clear hk hS a
  rintro i - a w hi hk hS hEq
  by_cases hil : i < cl.length
  ·obtain ⟨x, hx⟩ : ∃ x, cl[i]? = some x := ⟨_, List.getElem?_eq_getElem hil⟩
   obtain ⟨y, hy⟩ : ∃ y, cl'[i]? = some y := ⟨_, List.getElem?_eq_getElem (by omega)⟩
   have hv1 := hS.rdT c1
   have hv2 := hS.rdT g1
   (repeat' (first|((first|refine wx1 ?_|refine wx2 ?_ ?_<;>intro hp|refine s_end hk ?_)<;>(clear hk a;intro a hk))|((first|refine wx3 ?_;intro w b|refine wx4 ?_;intro w|refine wx5 ?_;intro w v);clear hk hS a;intro hS a hk)|refine wx0 ?_|fail))
   refine wp_drawn 10 mixed (by kernel_rfl) hk hS ?_;clear hk hS a
   (repeat' (first|(show ObxE _ _ _ _ _ _ _ _ _ (_::_) _ _ _;first|refine ox1 ?_|refine ox2 ?_ ?_<;>intro hp)|fail))
   all_goals (
    refine obe_nil ⟨rfl, ?_⟩;intro us a w hk hS
    (repeat' (first|((first|refine wx1 ?_|refine wx2 ?_ ?_<;>intro hp|refine s_end hk ?_)<;>(clear hk a;intro a hk))|((first|refine wx3 ?_;intro w b|refine wx4 ?_;intro w|refine wx5 ?_;intro w v);clear hk hS a;intro hS a hk)|refine wx0 ?_|fail)))
   ·have he : x = y := by assumption
    refine ⟨hil, (), hk.sd, hS.sb, fun j hj => ?_⟩
    by_cases e : j = i
    ·subst e;rw [hx, hy, he]
    ·exact hEq j (by omega)
   ·have he : ¬ x = y := by assumption
    refine done1 hk (h := ⟨congrArg Value.bool (eqS_false fun hh => ?_).symm, hS.nil⟩)
    obtain ⟨⟨q1, q2, q3, q4, q5, q6⟩, q9, q10⟩ := hiff.1 hh
    rw [q4, hy] at hx
    exact he (Option.some.inj hx).symm
  ·have : i = cl.length := by omega
   subst this
   have hcl : cl = cl' := List.ext_getElem? fun j => by
    by_cases hj : j < cl.length
    ·exact hEq j hj
    ·rw [List.getElem?_eq_none (by omega), List.getElem?_eq_none (by omega)]
   (repeat' (first|((first|refine wx1 ?_|refine wx2 ?_ ?_<;>intro hp|refine s_end hk ?_)<;>(clear hk a;intro a hk))|((first|refine wx3 ?_;intro w b|refine wx4 ?_;intro w|refine wx5 ?_;intro w v);clear hk hS a;intro hS a hk)|refine wx0 ?_|fail))
   replace hk := Kn.kp [2, 3, 84, 85] hk
   refine wp_for al.length (fun i _ => [(85, .int .i64 (i : Int))]) (fun _ _ => [pts b2 [.int .i64 id', .int .i64 k', .string tag', .string text', .slice b1' cl'.length n1, .slice b2' al'.length n2, .slice b3' sl'.length n3, .slice b4' G.length n4] 49, pts b1 [.int .i64 id, .int .i64 k, .string tag, .string text, .slice a1 cl.length m1, .slice a2 al.length m2, .slice a3 sl.length m3, .slice a4 H.length m4] 49]) (fun i _ => ∀ j, j < i → al[j]? = al'[j]?) () hk skx hS.sb (fun j hj => by omega) ?_
   clear hk hS a
   rintro i - a w hi hk hS hEq1
   by_cases hil : i < al.length
   ·obtain ⟨⟨nm, val⟩, hx⟩ : ∃ x, al[i]? = some x := ⟨_, List.getElem?_eq_getElem hil⟩
    obtain ⟨⟨nm', val'⟩, hy⟩ : ∃ y, al'[i]? = some y := ⟨_, List.getElem?_eq_getElem (by omega)⟩
    have hv1 := hS.rdT c2
    have hv2 := hS.rdT g2
    (repeat' (first|((first|refine wx1 ?_|refine wx2 ?_ ?_<;>intro hp|refine s_end hk ?_)<;>(clear hk a;intro a hk))|((first|refine wx3 ?_;intro w b|refine wx4 ?_;intro w|refine wx5 ?_;intro w v);clear hk hS a;intro hS a hk)|refine wx0 ?_|fail))
    refine wp_drawn 10 mixed (by kernel_rfl) hk hS ?_;clear hk hS a
    (repeat' (first|(show ObxE _ _ _ _ _ _ _ _ _ (_::_) _ _ _;first|refine ox1 ?_|refine ox2 ?_ ?_<;>intro hp)|fail))
    all_goals (
     refine obe_nil ⟨rfl, ?_⟩;intro us a w hk hS
     (repeat' (first|((first|refine wx1 ?_|refine wx2 ?_ ?_<;>intro hp|refine s_end hk ?_)<;>(clear hk a;intro a hk))|((first|refine wx3 ?_;intro w b|refine wx4 ?_;intro w|refine wx5 ?_;intro w v);clear hk hS a;intro hS a hk)|refine wx0 ?_|fail)))
    ·have he : (nm, val) = (nm', val') := by
      have := eqC_enc (α := PrS) (x := (nm, val)) (y := (nm', val')) (b := true) (by assumption)
      rwa [if_pos rfl] at this
     refine ⟨hil, (), hk.sd, hS.sb, fun j hj => ?_⟩
     by_cases e : j = i
     ·subst e;rw [hx, hy, he]
     ·exact hEq1 j (by omega)
    ·have he : ¬ (nm, val) = (nm', val') := by
      have := eqC_enc (α := PrS) (x := (nm, val)) (y := (nm', val')) (b := false) (by assumption)
      rwa [if_neg (by decide)] at this
     refine done1 hk (h := ⟨congrArg Value.bool (eqS_false fun hh => ?_).symm, hS.nil⟩)
     obtain ⟨⟨q1, q2, q3, q4, q5, q6⟩, q9, q10⟩ := hiff.1 hh
     rw [q5, hy] at hx
     exact he (Option.some.inj hx).symm
   ·have : i = al.length := by omega
    subst this
    have hcS : al = al' := List.ext_getElem? fun j => by
     by_cases hj : j < al.length
     ·exact hEq1 j hj
     ·rw [List.getElem?_eq_none (by omega), List.getElem?_eq_none (by omega)]
    (repeat' (first|((first|refine wx1 ?_|refine wx2 ?_ ?_<;>intro hp|refine s_end hk ?_)<;>(clear hk a;intro a hk))|((first|refine wx3 ?_;intro w b|refine wx4 ?_;intro w|refine wx5 ?_;intro w v);clear hk hS a;intro hS a hk)|refine wx0 ?_|fail))
    replace hk := Kn.kp [2, 3, 102, 103] hk
    refine wp_for sl.length (fun i _ => [(103, .int .i64 (i : Int))]) (fun _ _ => [pts b2 [.int .i64 id', .int .i64 k', .string tag', .string text', .slice b1' cl'.length n1, .slice b2' al'.length n2, .slice b3' sl'.length n3, .slice b4' G.length n4] 49, pts b1 [.int .i64 id, .int .i64 k, .string tag, .string text, .slice a1 cl.length m1, .slice a2 al.length m2, .slice a3 sl.length m3, .slice a4 H.length m4] 49]) (fun i _ => ∀ j, j < i → sl[j]? = sl'[j]?) () hk skx hS.sb (fun j hj => by omega) ?_
    clear hk hS a
    rintro i - a w hi hk hS hEq2
    by_cases hil : i < sl.length
    ·obtain ⟨⟨nm, val⟩, hx⟩ : ∃ x, sl[i]? = some x := ⟨_, List.getElem?_eq_getElem hil⟩
     obtain ⟨⟨nm', val'⟩, hy⟩ : ∃ y, sl'[i]? = some y := ⟨_, List.getElem?_eq_getElem (by omega)⟩
     have hv1 := hS.rdT c3
     have hv2 := hS.rdT g3
     (repeat' (first|((first|refine wx1 ?_|refine wx2 ?_ ?_<;>intro hp|refine s_end hk ?_)<;>(clear hk a;intro a hk))|((first|refine wx3 ?_;intro w b|refine wx4 ?_;intro w|refine wx5 ?_;intro w v);clear hk hS a;intro hS a hk)|refine wx0 ?_|fail))
     refine wp_drawn 10 mixed (by kernel_rfl) hk hS ?_;clear hk hS a
     (repeat' (first|(show ObxE _ _ _ _ _ _ _ _ _ (_::_) _ _ _;first|refine ox1 ?_|refine ox2 ?_ ?_<;>intro hp)|fail))
     all_goals (
      refine obe_nil ⟨rfl, ?_⟩;intro us a w hk hS
      (repeat' (first|((first|refine wx1 ?_|refine wx2 ?_ ?_<;>intro hp|refine s_end hk ?_)<;>(clear hk a;intro a hk))|((first|refine wx3 ?_;intro w b|refine wx4 ?_;intro w|refine wx5 ?_;intro w v);clear hk hS a;intro hS a hk)|refine wx0 ?_|fail)))
     ·have he : (nm, val) = (nm', val') := by
       have := eqC_enc (α := PrI) (x := (nm, val)) (y := (nm', val')) (b := true) (by assumption)
       rwa [if_pos rfl] at this
      refine ⟨hil, (), hk.sd, hS.sb, fun j hj => ?_⟩
      by_cases e : j = i
      ·subst e;rw [hx, hy, he]
      ·exact hEq2 j (by omega)
     ·have he : ¬ (nm, val) = (nm', val') := by
       have := eqC_enc (α := PrI) (x := (nm, val)) (y := (nm', val')) (b := false) (by assumption)
       rwa [if_neg (by decide)] at this
      refine done1 hk (h := ⟨congrArg Value.bool (eqS_false fun hh => ?_).symm, hS.nil⟩)
      obtain ⟨⟨q1, q2, q3, q4, q5, q6⟩, q9, q10⟩ := hiff.1 hh
      rw [q6, hy] at hx
      exact he (Option.some.inj hx).symm
    ·have : i = sl.length := by omega
     subst this
     have hcI : sl = sl' := List.ext_getElem? fun j => by
      by_cases hj : j < sl.length
      ·exact hEq2 j hj
      ·rw [List.getElem?_eq_none (by omega), List.getElem?_eq_none (by omega)]
     (repeat' (first|((first|refine wx1 ?_|refine wx2 ?_ ?_<;>intro hp|refine s_end hk ?_)<;>(clear hk a;intro a hk))|((first|refine wx3 ?_;intro w b|refine wx4 ?_;intro w|refine wx5 ?_;intro w v);clear hk hS a;intro hS a hk)|refine wx0 ?_|fail))
     replace hk := Kn.kp [2, 3, 120, 121] hk
     refine wp_for H.length (fun i _ => [(121, .int .i64 (i : Int))]) (fun _ _ => [pts b2 [.int .i64 id', .int .i64 k', .string tag', .string text', .slice b1' cl'.length n1, .slice b2' al'.length n2, .slice b3' sl'.length n3, .slice b4' G.length n4] 49, pts b1 [.int .i64 id, .int .i64 k, .string tag, .string text, .slice a1 cl.length m1, .slice a2 al.length m2, .slice a3 sl.length m3, .slice a4 H.length m4] 49]) (fun i _ => ∀ (j : Nat) (t u : STree), j < i → kids[j]? = some t → kids'[j]? = some u → eqS t u = true) () hk skx hS.sb (fun j t u hj => by omega) ?_
     clear hk hS a
     rintro i - a w hi hk hS hEq3
     by_cases hil : i < H.length
     ·obtain ⟨tk, htk⟩ : ∃ t, kids[i]? = some t := ⟨_, List.getElem?_eq_getElem (by omega)⟩
      obtain ⟨uk, huk⟩ : ∃ t, kids'[i]? = some t := ⟨_, List.getElem?_eq_getElem (by omega)⟩
      obtain ⟨hd0, hx⟩ : ∃ x, H[i]? = some x := ⟨_, List.getElem?_eq_getElem hil⟩
      obtain ⟨gd0, hy⟩ : ∃ x, G[i]? = some x := ⟨_, List.getElem?_eq_getElem (by omega)⟩
      have hTr := hF.2 i tk hd0 htk hx
      have hTu := hG.2 i uk gd0 huk hy
      have hfk := l5 tk (List.mem_of_getElem? htk)
      have hfu := l5' uk (List.mem_of_getElem? huk)
      have hlt : SizeOf.sizeOf tk < n := by have := skid_lt (id := id) (k := k) (tag := tag) (text := text) (cl := cl) (at_ := al) (st := sl) (List.mem_of_getElem? htk);omega
      obtain ⟨id0, k0, tag0, text0, ⟨x1, x2, x3⟩, ⟨y1, y2, y3⟩, ⟨z1, z2, z3⟩, ⟨u1, u2, u3⟩⟩ := hd0
      obtain ⟨id9, k9, tag9, text9, ⟨x19, x29, x39⟩, ⟨y19, y29, y39⟩, ⟨z19, z29, z39⟩, ⟨u19, u29, u39⟩⟩ := gd0
      have hcall := fun w0 h1 h2 => ih tk uk (id0, k0, tag0, text0, ⟨x1, x2, x3⟩, ⟨y1, y2, y3⟩, ⟨z1, z2, z3⟩, ⟨u1, u2, u3⟩) (id9, k9, tag9, text9, ⟨x19, x29, x39⟩, ⟨y19, y29, y39⟩, ⟨z19, z29, z39⟩, ⟨u19, u29, u39⟩) w0 hlt hfk hfu h1 h2
      have hv1 := hS.rdT c4
      have hv2 := hS.rdT g4
      cases hs : eqS tk uk with
      | true =>
       rw [hs] at hcall
       (repeat' (first|((first|refine wx1 ?_|refine wx2 ?_ ?_<;>intro hp|refine s_end hk ?_)<;>(clear hk a;intro a hk))|((first|refine wx3 ?_;intro w b|refine wx4 ?_;intro w|refine wx5 ?_;intro w v);clear hk hS a;intro hS a hk)|refine wx0 ?_|fail))
       refine wp_drawn 12 mixed (by kernel_rfl) hk hS ?_;clear hk hS a
       (repeat' (first|(show ObxE _ _ _ _ _ _ _ _ _ (_::_) _ _ _;first|refine ox1 ?_|refine ox2 ?_ ?_<;>intro hp)|fail))
       refine' obe_val (fun us a w hk hd hS => ?_) ?_;rotate_left;focus (have hk := Kn.vw hk vwx;exact g_callO hk (hf := by kernel_rfl) (hc := hcall _ (hS.rdSr hTr) (hS.rdSr hTu)) (h := fun _ _ h => h))
       (repeat' (first|(show ObxE _ _ _ _ _ _ _ _ _ (_::_) _ _ _;first|refine ox1 ?_|refine ox2 ?_ ?_<;>intro hp)|fail))
       refine obe_nil ⟨rfl, ?_⟩;intro us a w hk hS
       (repeat' (first|((first|refine wx1 ?_|refine wx2 ?_ ?_<;>intro hp|refine s_end hk ?_)<;>(clear hk a;intro a hk))|((first|refine wx3 ?_;intro w b|refine wx4 ?_;intro w|refine wx5 ?_;intro w v);clear hk hS a;intro hS a hk)|refine wx0 ?_|fail))
       refine ⟨hil, (), hk.sd, hS.sb, fun j t u hj ht hu => ?_⟩
       by_cases e : j = i
       ·subst e
        rw [htk] at ht
        rw [huk] at hu
        cases ht
        cases hu
        exact hs
       ·exact hEq3 j t u (by omega) ht hu
      | false =>
       rw [hs] at hcall
       (repeat' (first|((first|refine wx1 ?_|refine wx2 ?_ ?_<;>intro hp|refine s_end hk ?_)<;>(clear hk a;intro a hk))|((first|refine wx3 ?_;intro w b|refine wx4 ?_;intro w|refine wx5 ?_;intro w v);clear hk hS a;intro hS a hk)|refine wx0 ?_|fail))
       refine wp_drawn 12 mixed (by kernel_rfl) hk hS ?_;clear hk hS a
       (repeat' (first|(show ObxE _ _ _ _ _ _ _ _ _ (_::_) _ _ _;first|refine ox1 ?_|refine ox2 ?_ ?_<;>intro hp)|fail))
       refine' obe_val (fun us a w hk hd hS => ?_) ?_;rotate_left;focus (have hk := Kn.vw hk vwx;exact g_callO hk (hf := by kernel_rfl) (hc := hcall _ (hS.rdSr hTr) (hS.rdSr hTu)) (h := fun _ _ h => h))
       (repeat' (first|(show ObxE _ _ _ _ _ _ _ _ _ (_::_) _ _ _;first|refine ox1 ?_|refine ox2 ?_ ?_<;>intro hp)|fail))
       refine obe_nil ⟨rfl, ?_⟩;intro us a w hk hS
       (repeat' (first|((first|refine wx1 ?_|refine wx2 ?_ ?_<;>intro hp|refine s_end hk ?_)<;>(clear hk a;intro a hk))|((first|refine wx3 ?_;intro w b|refine wx4 ?_;intro w|refine wx5 ?_;intro w v);clear hk hS a;intro hS a hk)|refine wx0 ?_|fail))
       refine done1 hk (h := ⟨congrArg Value.bool (eqS_false fun hh => ?_).symm, hS.nil⟩)
       obtain ⟨⟨q1, q2, q3, q4, q5, q6⟩, q9, q10⟩ := hiff.1 hh
       have := q10 i tk uk htk huk
       rw [hs] at this
       cases this
     ·have : i = H.length := by omega
      subst this
      (repeat' (first|((first|refine wx1 ?_|refine wx2 ?_ ?_<;>intro hp|refine s_end hk ?_)<;>(clear hk a;intro a hk))|((first|refine wx3 ?_;intro w b|refine wx4 ?_;intro w|refine wx5 ?_;intro w v);clear hk hS a;intro hS a hk)|refine wx0 ?_|fail))
      exact done1 hk (h := ⟨congrArg Value.bool (hiff.2 ⟨⟨hb1, hb2, hb4, hcl, hcS, hcI⟩, by omega, fun j t u ht hu => hEq3 j t u (by have := lt_of_get ht;omega) ht hu⟩).symm, hS.nil⟩)
end Go.Proofs.YtgklceoodpocaaaGreatDoor
namespace Go.Proofs.YtgklceoodpocaaaGreatDoor
open Go.RowKit
set_option maxRecDepth 100000
attribute [local irreducible] Go.Code.wpIn Go.wpListIn Go.Calls Gives Go.Exit.then Go.Exit.inBlock Done ObxE
set_option maxHeartbeats 4000000 in
theorem told9_any : ∀ (n : Nat) (t : STree) (h : SnH) (w0 : World), SizeOf.sizeOf t < n → SFits t → SrR w0 t h → Calls Tryz.prog 31 #[snV h] w0 (Ret fun v w => St w0 [streeH t v] w)
 | 0, _, _, _, hn, _, _ => by omega
 | n + 1, t, h, w0, hn, hf, hr => by
  have ih := told9_any n
  obtain ⟨id, k, tag, text, cl, al, sl, kids, a1, m1, a2, m2, a3, m3, a4, m4, H, rfl, rfl, c1, c2, c3, c4, hF⟩ := hr.split
  obtain ⟨l1, l2, l3, l4, l5⟩ := hf
  have hHk : H.length = kids.length := hF.1
  show Calls Tryz.prog 31 #[.agg #[.int .i64 id, .int .i64 k, .string tag, .string text, .slice a1 cl.length m1, .slice a2 al.length m2, .slice a3 sl.length m3, .slice a4 H.length m4]] w0 _
  refine enter Tryz.func31 rfl Tryz.ntmps31 rfl (fun a hk => ?_);have hS := St.refl w0
  (repeat' (first|((first|refine wx1 ?_|refine wx2 ?_ ?_<;>intro hp|refine s_end hk ?_)<;>(clear hk a;intro a hk))|((first|refine wx3 ?_;intro w b|refine wx4 ?_;intro w|refine wx5 ?_;intro w v);clear hk hS a;intro hS a hk)|refine wx0 ?_|fail))
  rename_i b1
  rename Nat => b2
  refine wp_drawn 14 mixed (by kernel_rfl) hk hS ?_;clear hk hS a
  (repeat' (first|(show ObxE _ _ _ _ _ _ _ _ _ (_::_) _ _ _;first|refine ox1 ?_|refine ox2 ?_ ?_<;>intro hp)|fail))
  refine' obe_res (fun us a w hk hd hS => ?_) ?_;rotate_left;focus (have hk := Kn.vw hk vwx;exact v_bs0 (hT := eT rfl) (hE := zT rfl))
  (repeat' (first|(show ObxE _ _ _ _ _ _ _ _ _ (_::_) _ _ _;first|refine ox1 ?_|refine ox2 ?_ ?_<;>intro hp)|fail))
  refine' obe_res (fun us a w hk hd hS => ?_) ?_;rotate_left;focus (have hk := Kn.vw hk vwx;exact v_appR (ys := cl) hk hd.1 (hT := eT rfl) (hTx := eT rfl) (hE := zT rfl) (hz := oT rfl) (hzs := rfl) (hs := hS.rdT c1) (hby := bT rfl) (hbytes := by omega) (h63 := by simp only [maxLen];omega))
  (repeat' (first|(show ObxE _ _ _ _ _ _ _ _ _ (_::_) _ _ _;first|refine ox1 ?_|refine ox2 ?_ ?_<;>intro hp)|fail))
  refine' obe_fn [11] (fun l => .agg #[.int .i64 id, .int .i64 k, .string tag, .string text, l.getD 0 undef, .slice none 0 0, .slice none 0 0, .slice none 0 0]) (fun us a w hk hd hS => ?_) ?_ (by intro k e;simp only [List.mem_cons, List.not_mem_nil, or_false] at e;rcases e with rfl;exact ⟨21, _, rfl, rfl⟩)
  ·have hk := Kn.vw hk vwx
   have h1 : (appH 9 cl (us 11)).rd w := hd.2.2.2.2.1
   obtain ⟨_, _, e1, _⟩ := (appH.rd h1).shape
   simp only [Nat.zero_add, Nat.reduceAdd] at hk
   simp only [List.map, List.getD_cons_zero]
   rw [e1] at hk ⊢
   exact g_build hk ⟨rfl, St.refl w⟩ (fsT rfl) (oT rfl)
  refine' obe_res (fun us a w hk hd hS => ?_) ?_;rotate_left;focus (have hk := Kn.vw hk vwx;exact v_alloc hk (oT rfl))
  refine obe_nil ⟨rfl, ?_⟩;intro us a w hk hS
  simp only [resE, List.cons_append, List.nil_append, Nat.zero_add, Nat.reduceAdd] at hS
  obtain ⟨b3, hb3, hS1⟩ := hS.ptv atx;replace hS := hS1;clear hS1
  replace hk := Kn.kp [1, 2, 3, 22] hk
  simp only [HV.of, List.map, List.getD_cons_zero, Nat.zero_add, Nat.reduceAdd] at hk
  generalize us 11 = v21 at hS hk
  rw [hb3] at hk
  obtain ⟨a21, m21, rfl, _⟩ := (appH.rd (hS.rd (A := appH 9 cl v21) atx)).shape
  (repeat' (first|((first|refine wx1 ?_|refine wx2 ?_ ?_<;>intro hp|refine s_end hk ?_)<;>(clear hk a;intro a hk))|((first|refine wx3 ?_;intro w b|refine wx4 ?_;intro w|refine wx5 ?_;intro w v);clear hk hS a;intro hS a hk)|refine wx0 ?_|fail))
  replace hS := hS.nilT 102 PrS
  replace hk := Kn.kp [1, 2, 3, 24, 25, 26] hk
  refine wp_for al.length (fun i _ => [(26, .int .i64 (i : Int))]) (fun i v => [OwT 102 (al.take i) (.slice v.1 i v.2), pts b3 [.int .i64 id, .int .i64 k, .string tag, .string text, .slice a21 cl.length m21, .slice v.1 i v.2, .slice none 0 0, .slice none 0 0] 49, appH 9 cl (.slice a21 cl.length m21), pts b2 [.int .i64 0, .int .i64 0, .string ⟨#[]⟩, .string ⟨#[]⟩, .slice none 0 0, .slice none 0 0, .slice none 0 0, .slice none 0 0] 49, pts b1 [.int .i64 id, .int .i64 k, .string tag, .string text, .slice a1 cl.length m1, .slice a2 al.length m2, .slice a3 sl.length m3, .slice a4 H.length m4] 41]) (fun _ _ => True) ((none, 0) : Option Addr × Nat) hk skx hS.sb trivial ?_
  clear hk hS a
  rintro i ⟨ao, c⟩ a w hi hk hS -
  by_cases hil : i < al.length
  ·obtain ⟨⟨nm, val⟩, hx⟩ : ∃ x, al[i]? = some x := ⟨_, List.getElem?_eq_getElem hil⟩
   have hst : al.take (i + 1) = al.take i ++ [(nm, val)] := take_snoc hx
   have htl : (al.take i).length = i := by rw [List.length_take];omega
   have hv1 := hS.rdT c2
   simp only at hS hk
   (repeat' (first|((first|refine wx1 ?_|refine wx2 ?_ ?_<;>intro hp|refine s_end hk ?_)<;>(clear hk a;intro a hk))|((first|refine wx3 ?_;intro w b|refine wx4 ?_;intro w|refine wx5 ?_;intro w v);clear hk hS a;intro hS a hk)|refine wx0 ?_|fail))
   have htl1 : (al.take (i + 1)).length = i + 1 := by rw [List.length_take];omega
   refine sg hk (g_bsT (xs := [((nm, val) : ByteArray × ByteArray)]) (m := 0) hk hS ?_ (hT := eT rfl) (hE := zT rfl) (hz := oT rfl));clear hk hS a;intro w ve hS a hk
   (repeat' (first|((first|refine wx1 ?_|refine wx2 ?_ ?_<;>intro hp|refine s_end hk ?_)<;>(clear hk a;intro a hk))|((first|refine wx3 ?_;intro w b|refine wx4 ?_;intro w|refine wx5 ?_;intro w v);clear hk hS a;intro hS a hk)|refine wx0 ?_|fail))
   rw [← hst] at hS
   rename Value => vn
   obtain ⟨aovn, cvn, hshp, _⟩ := (OwT.rd (hS.rd (A := OwT 102 _ vn) atx)).shape;subst hshp
   rw [htl1] at hS hk
   (repeat' (first|((first|refine wx1 ?_|refine wx2 ?_ ?_<;>intro hp|refine s_end hk ?_)<;>(clear hk a;intro a hk))|((first|refine wx3 ?_;intro w b|refine wx4 ?_;intro w|refine wx5 ?_;intro w v);clear hk hS a;intro hS a hk)|refine wx0 ?_|fail))
   exact ⟨hil, (aovn, cvn), hk.sd, hS.sb, trivial⟩
  ·have : i = al.length := by omega
   subst this
   rw [List.take_length] at hS
   simp only at hS hk
   have c3' := hS.rdT c3
   (repeat' (first|((first|refine wx1 ?_|refine wx2 ?_ ?_<;>intro hp|refine s_end hk ?_)<;>(clear hk a;intro a hk))|((first|refine wx3 ?_;intro w b|refine wx4 ?_;intro w|refine wx5 ?_;intro w v);clear hk hS a;intro hS a hk)|refine wx0 ?_|fail))
   replace hS := hS.nilT 103 PrI
   replace hk := Kn.kp [1, 2, 3, 38, 39, 40] hk
   refine wp_for sl.length (fun i _ => [(40, .int .i64 (i : Int))]) (fun i v => [OwT 103 (sl.take i) (.slice v.1 i v.2), pts b3 [.int .i64 id, .int .i64 k, .string tag, .string text, .slice a21 cl.length m21, .slice ao al.length c, .slice v.1 i v.2, .slice none 0 0] 49, OwT 102 al (.slice ao al.length c), appH 9 cl (.slice a21 cl.length m21), pts b2 [.int .i64 0, .int .i64 0, .string ⟨#[]⟩, .string ⟨#[]⟩, .slice none 0 0, .slice none 0 0, .slice none 0 0, .slice none 0 0] 49, pts b1 [.int .i64 id, .int .i64 k, .string tag, .string text, .slice a1 cl.length m1, .slice a2 al.length m2, .slice a3 sl.length m3, .slice a4 H.length m4] 41]) (fun _ _ => True) ((none, 0) : Option Addr × Nat) hk skx hS.sb trivial ?_
   clear hk hS a c3'
   rintro i ⟨bo, f⟩ a w hi hk hS -
   by_cases hil : i < sl.length
   ·obtain ⟨⟨nm, val⟩, hx⟩ : ∃ x, sl[i]? = some x := ⟨_, List.getElem?_eq_getElem hil⟩
    have hst : sl.take (i + 1) = sl.take i ++ [(nm, val)] := take_snoc hx
    have htl : (sl.take i).length = i := by rw [List.length_take];omega
    have hv1 := hS.rdT c3
    simp only at hS hk
    (repeat' (first|((first|refine wx1 ?_|refine wx2 ?_ ?_<;>intro hp|refine s_end hk ?_)<;>(clear hk a;intro a hk))|((first|refine wx3 ?_;intro w b|refine wx4 ?_;intro w|refine wx5 ?_;intro w v);clear hk hS a;intro hS a hk)|refine wx0 ?_|fail))
    have htl1 : (sl.take (i + 1)).length = i + 1 := by rw [List.length_take];omega
    refine sg hk (g_bsT (xs := [((nm, val) : ByteArray × Int)]) (m := 0) hk hS ?_ (hT := eT rfl) (hE := zT rfl) (hz := oT rfl));clear hk hS a;intro w ve hS a hk
    (repeat' (first|((first|refine wx1 ?_|refine wx2 ?_ ?_<;>intro hp|refine s_end hk ?_)<;>(clear hk a;intro a hk))|((first|refine wx3 ?_;intro w b|refine wx4 ?_;intro w|refine wx5 ?_;intro w v);clear hk hS a;intro hS a hk)|refine wx0 ?_|fail))
    rw [← hst] at hS
    rename Value => vn
    obtain ⟨aovn, cvn, hshp, _⟩ := (OwT.rd (hS.rd (A := OwT 103 _ vn) atx)).shape;subst hshp
    rw [htl1] at hS hk
    (repeat' (first|((first|refine wx1 ?_|refine wx2 ?_ ?_<;>intro hp|refine s_end hk ?_)<;>(clear hk a;intro a hk))|((first|refine wx3 ?_;intro w b|refine wx4 ?_;intro w|refine wx5 ?_;intro w v);clear hk hS a;intro hS a hk)|refine wx0 ?_|fail))
    exact ⟨hil, (aovn, cvn), hk.sd, hS.sb, trivial⟩
   ·have : i = sl.length := by omega
    subst this
    rw [List.take_length] at hS
    simp only at hS hk
    have c4' := hS.rdT c4
    have hF' := hS.rdSo hF
    (repeat' (first|((first|refine wx1 ?_|refine wx2 ?_ ?_<;>intro hp|refine s_end hk ?_)<;>(clear hk a;intro a hk))|((first|refine wx3 ?_;intro w b|refine wx4 ?_;intro w|refine wx5 ?_;intro w v);clear hk hS a;intro hS a hk)|refine wx0 ?_|fail))
    replace hS := sforR.nil (hS.nilT 49 SnH)
    replace hk := Kn.kp [2, 3, 52, 53, 54] hk
    refine wp_for H.length (fun i _ => [(54, .int .i64 (i : Int))]) (fun i v => [sforR (kids.take i) (v.2 : List SnH), OwT 49 v.2 (.slice v.1.1 i v.1.2), pts b3 [.int .i64 id, .int .i64 k, .string tag, .string text, .slice a21 cl.length m21, .slice ao al.length c, .slice bo sl.length f, .slice v.1.1 i v.1.2] 49, OwT 103 sl (.slice bo sl.length f), OwT 102 al (.slice ao al.length c), appH 9 cl (.slice a21 cl.length m21), pts b2 [.int .i64 0, .int .i64 0, .string ⟨#[]⟩, .string ⟨#[]⟩, .slice none 0 0, .slice none 0 0, .slice none 0 0, .slice none 0 0] 49, pts b1 [.int .i64 id, .int .i64 k, .string tag, .string text, .slice a1 cl.length m1, .slice a2 al.length m2, .slice a3 sl.length m3, .slice a4 H.length m4] 41]) (fun _ _ => True) (((none, 0), []) : (Option Addr × Nat) × List SnH) hk skx hS.sb trivial ?_
    clear hk hS a
    rintro j ⟨⟨ak, ck⟩, H'⟩ a w hj hk hS -
    have hFH := hS.soR .here
    have hkl : (kids.take j).length = j := by rw [List.length_take, ← hF.1];omega
    have hHl : H'.length = j := by rw [hFH.1, hkl]
    by_cases hjl : j < H.length
    ·obtain ⟨tk, htk⟩ : ∃ t, kids[j]? = some t := ⟨_, List.getElem?_eq_getElem (by rw [← hF.1];exact hjl)⟩
     obtain ⟨hd0, hx⟩ : ∃ x, H[j]? = some x := ⟨_, List.getElem?_eq_getElem hjl⟩
     have hTr := hF.2 j tk hd0 htk hx
     have hfk := l5 tk (List.mem_of_getElem? htk)
     have hlt : SizeOf.sizeOf tk < n := by have := skid_lt (id := id) (k := k) (tag := tag) (text := text) (cl := cl) (at_ := al) (st := sl) (List.mem_of_getElem? htk);omega
     have hst : kids.take (j + 1) = kids.take j ++ [tk] := take_snoc htk
     have c4'' := hS.rdT c4
     simp only at hS hk
     obtain ⟨id', k', tag', text', ⟨x1, x2, x3⟩, ⟨y1, y2, y3⟩, ⟨z1, z2, z3⟩, ⟨u1, u2, u3⟩⟩ := hd0
     (repeat' (first|((first|refine wx1 ?_|refine wx2 ?_ ?_<;>intro hp|refine s_end hk ?_)<;>(clear hk a;intro a hk))|((first|refine wx3 ?_;intro w b|refine wx4 ?_;intro w|refine wx5 ?_;intro w v);clear hk hS a;intro hS a hk)|refine wx0 ?_|fail))
     refine wp_drawn 5 mixed (by kernel_rfl) hk hS ?_;clear hk hS a
     (repeat' (first|(show ObxE _ _ _ _ _ _ _ _ _ (_::_) _ _ _;first|refine ox1 ?_|refine ox2 ?_ ?_<;>intro hp)|fail))
     refine' obe_res (fun us a w hk hd hS => ?_) ?_;rotate_left;focus (have hk := Kn.vw hk vwx;exact g_callO hk (hf := by kernel_rfl) (hc := ih tk (id', k', tag', text', ⟨x1, x2, x3⟩, ⟨y1, y2, y3⟩, ⟨z1, z2, z3⟩, ⟨u1, u2, u3⟩) _ hlt hfk (hS.rdSr hTr)) (h := fun _ _ h => h))
     refine' obe_dep 61 3 (V := fun u v => OwT 49 [snOf u] v) (fun us a w hk hd hS => ?_) ?_
     ·have hk := Kn.vw hk vwx
      have hG : (streeH tk (us 3)).rd w := hd.1
      obtain ⟨⟨id2, k2, tag2, text2, ⟨x12, x22, x32⟩, ⟨y12, y22, y32⟩, ⟨z12, z22, z32⟩, ⟨u12, u22, u32⟩⟩, he, _⟩ := streeH.rd hG
      show Gives _ _ _ _ (fun v w' => St w [OwT 49 [snOf (us 3)] v] w')
      simp only [Nat.zero_add, Nat.reduceAdd] at hk
      rw [he] at hk ⊢
      rw [snOf_snV]
      exact v_bsT (xs := [((id2, k2, tag2, text2, ⟨x12, x22, x32⟩, ⟨y12, y22, y32⟩, ⟨z12, z22, z32⟩, ⟨u12, u22, u32⟩) : SnH)]) (m := 0) hk (hT := eT rfl) (hE := zT rfl) (hz := oT rfl)
     refine obe_nil ⟨rfl, ?_⟩;intro us a w hk hS
     simp only [resE, List.cons_append, List.nil_append, Nat.zero_add, Nat.reduceAdd] at hS
     replace hk := Kn.kp [2, 3, 52, 53, 54, 59, 61, 62] hk
     simp only [HV.of, Nat.zero_add, Nat.reduceAdd] at hk
     generalize us 3 = v63 at hS hk
     generalize us 4 = v64 at hS hk
     obtain ⟨hd1, rfl, hS1⟩ := St.stree hS (.there .here)
     clear hS
     have hS := hS1
     clear hS1
     rw [snOf_snV] at hS
     (repeat' (first|((first|refine wx1 ?_|refine wx2 ?_ ?_<;>intro hp|refine s_end hk ?_)<;>(clear hk a;intro a hk))|((first|refine wx3 ?_;intro w b|refine wx4 ?_;intro w|refine wx5 ?_;intro w v);clear hk hS a;intro hS a hk)|refine wx0 ?_|fail))
     have hl1 : (H' ++ [hd1]).length = j + 1 := by rw [List.length_append, hHl];rfl
     rename Value => vn
     obtain ⟨aovn, cvn, hshp, _⟩ := (OwT.rd (hS.rd (A := OwT 49 _ vn) atx)).shape;subst hshp
     rw [hl1] at hS hk
     (repeat' (first|((first|refine wx1 ?_|refine wx2 ?_ ?_<;>intro hp|refine s_end hk ?_)<;>(clear hk a;intro a hk))|((first|refine wx3 ?_;intro w b|refine wx4 ?_;intro w|refine wx5 ?_;intro w v);clear hk hS a;intro hS a hk)|refine wx0 ?_|fail))
     have hS1 := sforR.snoc (ts := kids.take j) (H := H') (t := tk) (h := hd1) (L := [OwT 49 (H' ++ [hd1]) (.slice aovn (j + 1) cvn), pts b3 [.int .i64 id, .int .i64 k, .string tag, .string text, .slice a21 cl.length m21, .slice ao al.length c, .slice bo sl.length f, .slice aovn (j + 1) cvn] 49, OwT 103 sl (.slice bo sl.length f), OwT 102 al (.slice ao al.length c), appH 9 cl (.slice a21 cl.length m21), pts b2 [.int .i64 0, .int .i64 0, .string ⟨#[]⟩, .string ⟨#[]⟩, .slice none 0 0, .slice none 0 0, .slice none 0 0, .slice none 0 0] 49, pts b1 [.int .i64 id, .int .i64 k, .string tag, .string text, .slice a1 cl.length m1, .slice a2 al.length m2, .slice a3 sl.length m3, .slice a4 H.length m4] 41]) (hS.sub (by (repeat (first | exact Sub.nil | exact Sub.refl | refine Sub.cons atx ?_))))
     rw [← hst] at hS1
     exact ⟨hjl, ((aovn, cvn), H' ++ [hd1]), hk.sd, hS1, trivial⟩
    ·have hjj : j = kids.length := by have := hF.1;omega
     subst hjj
     rw [List.take_length] at hS
     simp only at hS hk
     (repeat' (first|((first|refine wx1 ?_|refine wx2 ?_ ?_<;>intro hp|refine s_end hk ?_)<;>(clear hk a;intro a hk))|((first|refine wx3 ?_;intro w b|refine wx4 ?_;intro w|refine wx5 ?_;intro w v);clear hk hS a;intro hS a hk)|refine wx0 ?_|fail))
     refine done1R hk rfl (.str hS (hT := aT rfl) (hs := zT rfl)) (h := ?_)
     exact streeH.of (h := (id, k, tag, text, ⟨a21, cl.length, m21⟩, ⟨ao, al.length, c⟩, ⟨bo, sl.length, f⟩, ⟨ak, kids.length, ck⟩)) (streeR.of (A1 := appH 9 cl (.slice a21 cl.length m21)) (A2 := OwT 102 al (.slice ao al.length c)) (A3 := OwT 103 sl (.slice bo sl.length f)) (A4 := OwT 49 H' (.slice ak kids.length ck)) (hS.sub (by (repeat (first | exact Sub.nil | exact Sub.refl | refine Sub.cons atx ?_)))))
end Go.Proofs.YtgklceoodpocaaaGreatDoor
namespace Go.Proofs.YtgklceoodpocaaaGreatDoor
open Go.RowKit
set_option maxRecDepth 100000
attribute [local irreducible] Go.Code.wpIn Go.wpListIn Go.Calls Gives Go.Exit.then Go.Exit.inBlock Done ObxE
theorem numbers_any (xs ys : List Int) (va vb : Value) (w0 : World) (ha : SlT xs va w0) (hb : SlT ys vb w0) : Calls Tryz.prog 33 #[va, vb] w0 (Ret fun v w => v = .bool (decide (xs = ys)) ∧ St w0 [] w) := by
 refine enter Tryz.func33 rfl Tryz.ntmps33 rfl (fun a hk => ?_);have hS := St.refl w0
 by_cases hl : xs.length = ys.length
 ·have hl' : ((xs.length : Nat) : Int) = ((ys.length : Nat) : Int) := by omega
  (repeat' (first|((first|refine wx1 ?_|refine wx2 ?_ ?_<;>intro hp|refine s_end hk ?_)<;>(clear hk a;intro a hk))|((first|refine wx3 ?_;intro w b|refine wx4 ?_;intro w|refine wx5 ?_;intro w v);clear hk hS a;intro hS a hk)|refine wx0 ?_|fail))
  replace hk := Kn.kp [0, 1, 4, 12, 13] hk
  refine wp_for xs.length (fun i _ => [(13, .int .i64 (i : Int))]) (fun _ _ => _) (fun i _ => ∀ j, j < i → xs[j]? = ys[j]?) () hk skx hS (fun j hj => by omega) ?_
  clear hk hS a
  rintro i _ a w hi hk hS hF
  by_cases hlt : i < xs.length
  ·have hlt' : (i : Int) < ((xs.length : Nat) : Int) := by omega
   have hly : i < ys.length := by omega
   obtain ⟨x, hx⟩ : ∃ x, xs[i]? = some x := ⟨_, List.getElem?_eq_getElem hlt⟩
   obtain ⟨y, hy⟩ : ∃ y, ys[i]? = some y := ⟨_, List.getElem?_eq_getElem hly⟩
   have hm : (xs.length : Nat) ≤ maxLen := ha.len_le
   simp only [maxLen] at hm
   by_cases hxy : x = y
   ·(repeat' (first|((first|refine wx1 ?_|refine wx2 ?_ ?_<;>intro hp|refine s_end hk ?_)<;>(clear hk a;intro a hk))|((first|refine wx3 ?_;intro w b|refine wx4 ?_;intro w|refine wx5 ?_;intro w v);clear hk hS a;intro hS a hk)|refine wx0 ?_|fail))
    refine wp_drawn 9 mixed (by kernel_rfl) hk hS ?_;clear hk hS a
    (repeat' (first|(show ObxE _ _ _ _ _ _ _ _ _ (_::_) _ _ _;first|refine ox1 ?_|refine ox2 ?_ ?_<;>intro hp)|fail))
    refine obe_nil ⟨rfl, ?_⟩;intro us a w hk hS
    (repeat' (first|((first|refine wx1 ?_|refine wx2 ?_ ?_<;>intro hp|refine s_end hk ?_)<;>(clear hk a;intro a hk))|((first|refine wx3 ?_;intro w b|refine wx4 ?_;intro w|refine wx5 ?_;intro w v);clear hk hS a;intro hS a hk)|refine wx0 ?_|fail))
    refine ⟨hlt, (), hk.sd, hS, fun j hj => ?_⟩
    by_cases e : j = i
    ·subst e;rw [hx, hy, hxy]
    ·exact hF j (by omega)
   ·(repeat' (first|((first|refine wx1 ?_|refine wx2 ?_ ?_<;>intro hp|refine s_end hk ?_)<;>(clear hk a;intro a hk))|((first|refine wx3 ?_;intro w b|refine wx4 ?_;intro w|refine wx5 ?_;intro w v);clear hk hS a;intro hS a hk)|refine wx0 ?_|fail))
    refine wp_drawn 9 mixed (by kernel_rfl) hk hS ?_;clear hk hS a
    (repeat' (first|(show ObxE _ _ _ _ _ _ _ _ _ (_::_) _ _ _;first|refine ox1 ?_|refine ox2 ?_ ?_<;>intro hp)|fail))
    refine obe_nil ⟨rfl, ?_⟩;intro us a w hk hS
    (repeat' (first|((first|refine wx1 ?_|refine wx2 ?_ ?_<;>intro hp|refine s_end hk ?_)<;>(clear hk a;intro a hk))|((first|refine wx3 ?_;intro w b|refine wx4 ?_;intro w|refine wx5 ?_;intro w v);clear hk hS a;intro hS a hk)|refine wx0 ?_|fail))
    refine done1 hk (h := ⟨?_, hS.nil⟩)
    rw [decide_eq_false]
    intro e
    subst e
    rw [hx] at hy
    injection hy with hy
    exact hxy hy
  ·have hlt' : ¬ (i : Int) < ((xs.length : Nat) : Int) := by omega
   (repeat' (first|((first|refine wx1 ?_|refine wx2 ?_ ?_<;>intro hp|refine s_end hk ?_)<;>(clear hk a;intro a hk))|((first|refine wx3 ?_;intro w b|refine wx4 ?_;intro w|refine wx5 ?_;intro w v);clear hk hS a;intro hS a hk)|refine wx0 ?_|fail))
   refine done1 hk (h := ⟨?_, hS.nil⟩)
   rw [decide_eq_true]
   apply List.ext_getElem?
   intro j
   by_cases hj : j < i
   ·exact hF j hj
   ·rw [List.getElem?_eq_none (by omega), List.getElem?_eq_none (by omega)]
 ·have hl' : ¬ ((xs.length : Nat) : Int) = ((ys.length : Nat) : Int) := by omega
  (repeat' (first|((first|refine wx1 ?_|refine wx2 ?_ ?_<;>intro hp|refine s_end hk ?_)<;>(clear hk a;intro a hk))|((first|refine wx3 ?_;intro w b|refine wx4 ?_;intro w|refine wx5 ?_;intro w v);clear hk hS a;intro hS a hk)|refine wx0 ?_|fail))
  refine done1 hk (h := ⟨?_, hS.nil⟩)
  rw [decide_eq_false]
  intro e
  exact hl (by rw [e])
end Go.Proofs.YtgklceoodpocaaaGreatDoor
