/- Layer 8: how a node's words are written: the program. Layer 8: Print: the program. Layer 8, plain: what the fixed texts are; brackets within brackets. Layer 8: the fixed texts: the law's head. Texts are cut. Layer 4's reference, and what the statements of later layers begin with. Layer 7's reference: attributes, by their names. Layer 3: lists of texts, each once. Layer 3's reference: lists of texts, each once. Layer 7: views as the program's own; views of flat nodes. Layer 7: nodes told flat, each with how deep it stands. Layer 7: views of flat nodes. Layer 7: views as they are shown, in plain words. Layer 7: how great, how deep a view is, in plain words. Layer 7: numbers of a view, of each node and of what came of its kids. -/
import Derived.Test.YtipdgobplfkipaaDoorD14
import Derived.Test.YtipdgobplfkipaaDoorD06
import Derived.Test.YtipdgobplfkipaaDoorD05
import Derived.Test.YtipdgobplfkipaaDoorD09
set_option linter.all false
namespace Go.Proofs.YtipdgobplfkipaaDoor
open Go.RowKit
set_option maxRecDepth 100000
attribute [local irreducible] Go.Code.wpIn Go.wpListIn Go.Calls Gives Go.Exit.then Go.Exit.inBlock Done ObxE

theorem dur_len (nm : ByteArray) (x : Int) : (durW nm x).length ≤ 1 := by unfold durW; split <;> simp
theorem opt_len (o : Opt) : (optW o).length ≤ 6 := by
  have h1 := dur_len (wEnter ++ ⟨#[61]⟩) o.1
  have h2 := dur_len (wLeave ++ ⟨#[61]⟩) o.2.1
  have h3 := dur_len (wMove ++ ⟨#[61]⟩) o.2.2.1
  have h4 : (if o.2.2.2.2.1 = true then [wAppear] else []).length ≤ 1 := by split <;> simp
  have h5 : (if o.2.2.2.2.2 = true then [wMoves] else []).length ≤ 1 := by split <;> simp
  have h6 : (modeW o.2.2.2.1).length ≤ 1 := by unfold modeW; split <;> (try split) <;> simp
  unfold optW
  simp only [List.length_append]
  omega
set_option maxHeartbeats 16000000 in
theorem items_any (k : Int) (tag key text : ByteArray) (cl : List ByteArray) (al : List PrS) (sl : List PrI) (e lv m d : Int) (p q : Bool) (a1 a2 a3 a4 : Option Addr) (m1 m2 m3 m4 hn : Nat) (w0 : World) (ht : TabW w0)
    (c1 : SlT cl (.slice a1 cl.length m1) w0) (c2 : SlT al (.slice a2 al.length m2) w0) (c3 : SlT sl (.slice a3 sl.length m3) w0)
    (l1 : cl.length ≤ 1000) (l2 : al.length ≤ 1000) (l3 : sl.length ≤ 1000) (zk : key.size ≤ 1000000) (zc : ∀ c ∈ cl, c.size ≤ 1000000) (za : ∀ x ∈ snapF nmS al, x.1.size ≤ 1000000 ∧ x.2.size ≤ 1000000) (zs : ∀ x ∈ snapF nmI sl, x.1.size ≤ 1000000 ∧ i64R x.2)
    (he : i64R e) (hl : i64R lv) (hm : i64R m) :
    Calls Tryd.prog 16 #[.agg #[.int .i64 k, .string tag, .string key, .string text, .slice a1 cl.length m1, .slice a2 al.length m2, .slice a3 sl.length m3, .int .i64 e, .int .i64 lv, .int .i64 m, .int .i64 d, .bool p, .bool q, .slice a4 hn m4]] w0 (Ret fun v w => St w0 [OwT 9 (tag :: itmW k key cl (snapF nmS al) (snapF nmI sl) (e, lv, m, d, p, q)) v] w) := by
  have e46 : ByteArray.size ⟨#[46]⟩ = 1 := rfl
  have e35 : ByteArray.size ⟨#[35]⟩ = 1 := rfl
  have e61 : ByteArray.size ⟨#[61]⟩ = 1 := rfl
  have e64 : ByteArray.size ⟨#[64]⟩ = 1 := rfl
  have ha := snap_len nmS al
  have hs := snap_len nmI sl
  have zA : ∀ x ∈ snapF nmS al, x.1.size ≤ 1000000 ∧ x.2.size ≤ 1000000 := za
  have zS : ∀ x ∈ snapF nmI sl, x.1.size ≤ 1000000 ∧ i64R x.2 := zs
  have hof := fun w0 (hv : SlT al (.slice a2 al.length m2) w0) => ofS_any al (.slice a2 al.length m2) w0 hv (by omega)
  have hoi := fun w0 (hv : SlT sl (.slice a3 sl.length m3) w0) => ofI_any sl (.slice a3 sl.length m3) w0 hv (by omega)
  unfold itmW
  generalize snapF nmS al = A at *
  generalize snapF nmI sl = S at *
  refine enter Tryd.func16 rfl Tryd.ntmps16 rfl (fun a hk => ?_); have hS := St.refl w0
  refine wpIn_seq ?_; refine wpIn_region_lit ?_
  refine st_box hk hS ?_; clear hk hS a; intro w b1 hS a hk
  have c1' := hS.rdT c1
  have hx0 : (tag :: keyW key).length ≤ 2 := by unfold keyW; split <;> simp
  have hfin : ∀ K O : List ByteArray, (tag :: (keyW key ++ cl.map clsW ++ A.map attW ++ S.map styW ++ K ++ O)) = ((tag :: keyW key) ++ cl.map clsW ++ A.map attW ++ S.map styW) ++ K ++ O := fun K O => by simp
  by_cases hk0 : key = ⟨#[]⟩
  focus
    have hkw : keyW key = [] := if_pos hk0
    (repeat' (first | (show wpListIn _ _ _ _ _ (_ :: _) _ _; first | (refine wx1 ?_; clear hk a; intro a hk) | (refine wx2 ?_ ?_ <;> (intro hp; clear hk a; intro a hk)) | (refine wx3 ?_; clear hk hS a; intro w b hS a hk) | (refine wx4 ?_; clear hk hS a; intro w hS a hk) | (refine wx5 ?_; clear hk hS a; intro w v hS a hk) | fail) | refine wx0 ?_ | (refine s_end hk ?_; clear hk a; intro a hk) | fail))
    rename Value => v6
    replace hS : St w0 [OwT 9 ((tag :: keyW key) ++ (cl.take 0).map clsW) v6, pts b1 [.int .i64 k, .string tag, .string key, .string text, .slice a1 cl.length m1, .slice a2 al.length m2, .slice a3 sl.length m3, .int .i64 e, .int .i64 lv, .int .i64 m, .int .i64 d, .bool p, .bool q, .slice a4 hn m4] 32] w := by rw [hkw]; exact hS.sub (by (repeat (first | exact Sub.nil | exact Sub.refl | refine Sub.cons (by (repeat (first | exact At.here | apply At.there))) ?_)))
    replace hk := Kn.kp [1, 3, 23, 24, 25] hk
    clear hkw
  rotate_left
  focus
    have hkw : keyW key = [⟨#[35]⟩ ++ key] := if_neg hk0
    (repeat' (first | (show wpListIn _ _ _ _ _ (_ :: _) _ _; first | (refine wx1 ?_; clear hk a; intro a hk) | (refine wx2 ?_ ?_ <;> (intro hp; clear hk a; intro a hk)) | (refine wx3 ?_; clear hk hS a; intro w b hS a hk) | (refine wx4 ?_; clear hk hS a; intro w hS a hk) | (refine wx5 ?_; clear hk hS a; intro w v hS a hk) | fail) | refine wx0 ?_ | (refine s_end hk ?_; clear hk a; intro a hk) | fail))
    refine sg hk (g_cat (s := ⟨#[35]⟩) (r := key) hk ?_ (hl := by simp only [maxLen]; omega)); clear hk a; intro a hk
    (repeat' (first | (show wpListIn _ _ _ _ _ (_ :: _) _ _; first | (refine wx1 ?_; clear hk a; intro a hk) | (refine wx2 ?_ ?_ <;> (intro hp; clear hk a; intro a hk)) | (refine wx3 ?_; clear hk hS a; intro w b hS a hk) | (refine wx4 ?_; clear hk hS a; intro w hS a hk) | (refine wx5 ?_; clear hk hS a; intro w v hS a hk) | fail) | refine wx0 ?_ | (refine s_end hk ?_; clear hk a; intro a hk) | fail))
    rename Value => v6
    replace hS : St w0 [OwT 9 ((tag :: keyW key) ++ (cl.take 0).map clsW) v6, pts b1 [.int .i64 k, .string tag, .string key, .string text, .slice a1 cl.length m1, .slice a2 al.length m2, .slice a3 sl.length m3, .int .i64 e, .int .i64 lv, .int .i64 m, .int .i64 d, .bool p, .bool q, .slice a4 hn m4] 32] w := by rw [hkw]; exact hS.sub (by (repeat (first | exact Sub.nil | exact Sub.refl | refine Sub.cons (by (repeat (first | exact At.here | apply At.there))) ?_)))
    replace hk := Kn.kp [1, 3, 23, 24, 25] hk
    clear hkw
  all_goals
    generalize tag :: keyW key = X0 at *
    refine wp_for cl.length (fun i v => [(3, v), (25, .int .i64 (i : Int))]) (fun i v => [OwT 9 (X0 ++ (cl.take i).map clsW) v, pts b1 [.int .i64 k, .string tag, .string key, .string text, .slice a1 cl.length m1, .slice a2 al.length m2, .slice a3 sl.length m3, .int .i64 e, .int .i64 lv, .int .i64 m, .int .i64 d, .bool p, .bool q, .slice a4 hn m4] 32]) (fun _ _ => True) v6 hk (by repeat (first | exact trivial | refine ⟨rfl, ?_⟩)) hS.sb trivial ?_
    clear hk hS a c1'
    rintro i v7 a w hi hk hS -
    have c1' := hS.rdT c1
    have hxl : (X0 ++ (cl.take i).map clsW).length = X0.length + i := by rw [List.length_append, List.length_map, List.length_take]; omega
    by_cases hil : i < cl.length
    · obtain ⟨c, hx⟩ : ∃ x, cl[i]? = some x := ⟨_, List.getElem?_eq_getElem hil⟩
      have hcs := zc c (List.mem_of_getElem? hx)
      have hst : X0 ++ (cl.take (i + 1)).map clsW = (X0 ++ (cl.take i).map clsW) ++ [clsW c] := by rw [take_snoc hx, List.map_append, List.append_assoc]; rfl
      generalize X0 ++ (cl.take i).map clsW = Y at *
      (repeat' (first | (show wpListIn _ _ _ _ _ (_ :: _) _ _; first | (refine wx1 ?_; clear hk a; intro a hk) | (refine wx2 ?_ ?_ <;> (intro hp; clear hk a; intro a hk)) | (refine wx3 ?_; clear hk hS a; intro w b hS a hk) | (refine wx4 ?_; clear hk hS a; intro w hS a hk) | (refine wx5 ?_; clear hk hS a; intro w v hS a hk) | fail) | refine wx0 ?_ | (refine s_end hk ?_; clear hk a; intro a hk) | fail))
      refine sg hk (g_cat (s := ⟨#[46]⟩) (r := c) hk ?_ (hl := by simp only [maxLen]; omega)); clear hk a; intro a hk
      (repeat' (first | (show wpListIn _ _ _ _ _ (_ :: _) _ _; first | (refine wx1 ?_; clear hk a; intro a hk) | (refine wx2 ?_ ?_ <;> (intro hp; clear hk a; intro a hk)) | (refine wx3 ?_; clear hk hS a; intro w b hS a hk) | (refine wx4 ?_; clear hk hS a; intro w hS a hk) | (refine wx5 ?_; clear hk hS a; intro w v hS a hk) | fail) | refine wx0 ?_ | (refine s_end hk ?_; clear hk a; intro a hk) | fail))
      rename Value => v8
      rw [show (⟨#[46]⟩ : ByteArray) ++ c = clsW c from rfl, ← hst] at hS
      exact ⟨hil, v8, hk.sd, hS.sub (by (repeat (first | exact Sub.nil | exact Sub.refl | refine Sub.cons (by (repeat (first | exact At.here | apply At.there))) ?_))), trivial⟩
    · have hii : i = cl.length := by omega
      subst hii
      rw [List.take_length] at hS hxl
      generalize hX1 : X0 ++ cl.map clsW = X1 at *
      have c2' := hS.rdT c2
      (repeat' (first | (show wpListIn _ _ _ _ _ (_ :: _) _ _; first | (refine wx1 ?_; clear hk a; intro a hk) | (refine wx2 ?_ ?_ <;> (intro hp; clear hk a; intro a hk)) | (refine wx3 ?_; clear hk hS a; intro w b hS a hk) | (refine wx4 ?_; clear hk hS a; intro w hS a hk) | (refine wx5 ?_; clear hk hS a; intro w v hS a hk) | fail) | refine wx0 ?_ | (refine s_end hk ?_; clear hk a; intro a hk) | fail))
      refine sg hk (g_callO hk (hf := by kernel_rfl) (hc := hof _ (hS.rdT c2)) (h := ?_)); clear hk a; rintro va w hS1 a hk; replace hS := hS.call hS1; clear hS1
      rw [List.cons_append, List.nil_append] at hS
      obtain ⟨aova, cva, hshp, _⟩ := (OwT.rd (hS.rd (A := OwT 57 _ va) (by (repeat (first | exact At.here | apply At.there))))).shape; subst hshp
      (repeat' (first | (show wpListIn _ _ _ _ _ (_ :: _) _ _; first | (refine wx1 ?_; clear hk a; intro a hk) | (refine wx2 ?_ ?_ <;> (intro hp; clear hk a; intro a hk)) | (refine wx3 ?_; clear hk hS a; intro w b hS a hk) | (refine wx4 ?_; clear hk hS a; intro w hS a hk) | (refine wx5 ?_; clear hk hS a; intro w v hS a hk) | fail) | refine wx0 ?_ | (refine s_end hk ?_; clear hk a; intro a hk) | fail))
      replace hS : St w0 [OwT 9 (X1 ++ (A.take 0).map attW) v7, OwT 57 A (.slice aova A.length cva), pts b1 [.int .i64 k, .string tag, .string key, .string text, .slice a1 cl.length m1, .slice a2 al.length m2, .slice a3 sl.length m3, .int .i64 e, .int .i64 lv, .int .i64 m, .int .i64 d, .bool p, .bool q, .slice a4 hn m4] 32] w := by rw [List.take_zero, List.map_nil, List.append_nil]; exact hS.sub (by (repeat (first | exact Sub.nil | exact Sub.refl | refine Sub.cons (by (repeat (first | exact At.here | apply At.there))) ?_)))
      replace hk := Kn.kp [1, 3, 37, 38, 39] hk
      refine wp_for A.length (fun i v => [(3, v), (39, .int .i64 (i : Int))]) (fun i v => [OwT 9 (X1 ++ (A.take i).map attW) v, OwT 57 A (.slice aova A.length cva), pts b1 [.int .i64 k, .string tag, .string key, .string text, .slice a1 cl.length m1, .slice a2 al.length m2, .slice a3 sl.length m3, .int .i64 e, .int .i64 lv, .int .i64 m, .int .i64 d, .bool p, .bool q, .slice a4 hn m4] 32]) (fun _ _ => True) v7 hk (by repeat (first | exact trivial | refine ⟨rfl, ?_⟩)) hS.sb trivial ?_
      clear hk hS a c1' c2'
      rintro i v7 a w hi hk hS -
      have hxl2 : (X1 ++ (A.take i).map attW).length = X1.length + i := by rw [List.length_append, List.length_map, List.length_take]; omega
      by_cases hil : i < A.length
      · obtain ⟨⟨nm, val⟩, hx⟩ : ∃ x, A[i]? = some x := ⟨_, List.getElem?_eq_getElem hil⟩
        have hcs := zA _ (List.mem_of_getElem? hx)
        simp only at hcs
        have hst : X1 ++ (A.take (i + 1)).map attW = (X1 ++ (A.take i).map attW) ++ [attW (nm, val)] := by rw [take_snoc hx, List.map_append, List.append_assoc]; rfl
        generalize X1 ++ (A.take i).map attW = Y at *
        (repeat' (first | (show wpListIn _ _ _ _ _ (_ :: _) _ _; first | (refine wx1 ?_; clear hk a; intro a hk) | (refine wx2 ?_ ?_ <;> (intro hp; clear hk a; intro a hk)) | (refine wx3 ?_; clear hk hS a; intro w b hS a hk) | (refine wx4 ?_; clear hk hS a; intro w hS a hk) | (refine wx5 ?_; clear hk hS a; intro w v hS a hk) | fail) | refine wx0 ?_ | (refine s_end hk ?_; clear hk a; intro a hk) | fail))
        refine sg hk (g_cat (s := ⟨#[64]⟩) (r := nm) hk ?_ (hl := by simp only [ByteArray.size_append, maxLen]; omega)); clear hk a; intro a hk
        refine sg hk (g_cat (s := ⟨#[64]⟩ ++ nm) (r := ⟨#[61]⟩) hk ?_ (hl := by simp only [ByteArray.size_append, maxLen]; omega)); clear hk a; intro a hk
        (repeat' (first | (show wpListIn _ _ _ _ _ (_ :: _) _ _; first | (refine wx1 ?_; clear hk a; intro a hk) | (refine wx2 ?_ ?_ <;> (intro hp; clear hk a; intro a hk)) | (refine wx3 ?_; clear hk hS a; intro w b hS a hk) | (refine wx4 ?_; clear hk hS a; intro w hS a hk) | (refine wx5 ?_; clear hk hS a; intro w v hS a hk) | fail) | refine wx0 ?_ | (refine s_end hk ?_; clear hk a; intro a hk) | fail))
        refine sg hk (g_cat (s := ⟨#[64]⟩ ++ nm ++ ⟨#[61]⟩) (r := val) hk ?_ (hl := by simp only [ByteArray.size_append, maxLen]; omega)); clear hk a; intro a hk
        (repeat' (first | (show wpListIn _ _ _ _ _ (_ :: _) _ _; first | (refine wx1 ?_; clear hk a; intro a hk) | (refine wx2 ?_ ?_ <;> (intro hp; clear hk a; intro a hk)) | (refine wx3 ?_; clear hk hS a; intro w b hS a hk) | (refine wx4 ?_; clear hk hS a; intro w hS a hk) | (refine wx5 ?_; clear hk hS a; intro w v hS a hk) | fail) | refine wx0 ?_ | (refine s_end hk ?_; clear hk a; intro a hk) | fail))
        rename Value => v8
        rw [show (⟨#[64]⟩ : ByteArray) ++ nm ++ ⟨#[61]⟩ ++ val = attW (nm, val) from rfl, ← hst] at hS
        exact ⟨hil, v8, hk.sd, hS.sub (by (repeat (first | exact Sub.nil | exact Sub.refl | refine Sub.cons (by (repeat (first | exact At.here | apply At.there))) ?_))), trivial⟩
      · have hii : i = A.length := by omega
        subst hii
        rw [List.take_length] at hS hxl2
        generalize hX2 : X1 ++ A.map attW = X2 at *
        have c3' := hS.rdT c3
        (repeat' (first | (show wpListIn _ _ _ _ _ (_ :: _) _ _; first | (refine wx1 ?_; clear hk a; intro a hk) | (refine wx2 ?_ ?_ <;> (intro hp; clear hk a; intro a hk)) | (refine wx3 ?_; clear hk hS a; intro w b hS a hk) | (refine wx4 ?_; clear hk hS a; intro w hS a hk) | (refine wx5 ?_; clear hk hS a; intro w v hS a hk) | fail) | refine wx0 ?_ | (refine s_end hk ?_; clear hk a; intro a hk) | fail))
        refine sg hk (g_callO hk (hf := by kernel_rfl) (hc := hoi _ (hS.rdT c3)) (h := ?_)); clear hk a; rintro vs w hS1 a hk; replace hS := hS.call hS1; clear hS1
        rw [List.cons_append, List.nil_append] at hS
        obtain ⟨aovs, cvs, hshp, _⟩ := (OwT.rd (hS.rd (A := OwT 60 _ vs) (by (repeat (first | exact At.here | apply At.there))))).shape; subst hshp
        (repeat' (first | (show wpListIn _ _ _ _ _ (_ :: _) _ _; first | (refine wx1 ?_; clear hk a; intro a hk) | (refine wx2 ?_ ?_ <;> (intro hp; clear hk a; intro a hk)) | (refine wx3 ?_; clear hk hS a; intro w b hS a hk) | (refine wx4 ?_; clear hk hS a; intro w hS a hk) | (refine wx5 ?_; clear hk hS a; intro w v hS a hk) | fail) | refine wx0 ?_ | (refine s_end hk ?_; clear hk a; intro a hk) | fail))
        replace hS : St w0 [OwT 9 (X2 ++ (S.take 0).map styW) v7, OwT 60 S (.slice aovs S.length cvs), pts b1 [.int .i64 k, .string tag, .string key, .string text, .slice a1 cl.length m1, .slice a2 al.length m2, .slice a3 sl.length m3, .int .i64 e, .int .i64 lv, .int .i64 m, .int .i64 d, .bool p, .bool q, .slice a4 hn m4] 32] w := by rw [List.take_zero, List.map_nil, List.append_nil]; exact hS.sub (by (repeat (first | exact Sub.nil | exact Sub.refl | refine Sub.cons (by (repeat (first | exact At.here | apply At.there))) ?_)))
        replace hk := Kn.kp [1, 3, 56, 57, 58] hk
        refine wp_for S.length (fun i v => [(3, v), (58, .int .i64 (i : Int))]) (fun i v => [OwT 9 (X2 ++ (S.take i).map styW) v, OwT 60 S (.slice aovs S.length cvs), pts b1 [.int .i64 k, .string tag, .string key, .string text, .slice a1 cl.length m1, .slice a2 al.length m2, .slice a3 sl.length m3, .int .i64 e, .int .i64 lv, .int .i64 m, .int .i64 d, .bool p, .bool q, .slice a4 hn m4] 32]) (fun _ _ => True) v7 hk (by repeat (first | exact trivial | refine ⟨rfl, ?_⟩)) hS.sb trivial ?_
        clear hk hS a c3'
        rintro i v7 a w hi hk hS -
        have hxl3 : (X2 ++ (S.take i).map styW).length = X2.length + i := by rw [List.length_append, List.length_map, List.length_take]; omega
        by_cases hil : i < S.length
        · obtain ⟨⟨nm, z⟩, hx⟩ : ∃ x, S[i]? = some x := ⟨_, List.getElem?_eq_getElem hil⟩
          have hcs := zS _ (List.mem_of_getElem? hx)
          simp only at hcs
          have hzs := itoR_size hcs.2
          have hst : X2 ++ (S.take (i + 1)).map styW = (X2 ++ (S.take i).map styW) ++ [styW (nm, z)] := by rw [take_snoc hx, List.map_append, List.append_assoc]; rfl
          generalize X2 ++ (S.take i).map styW = Y at *
          (repeat' (first | (show wpListIn _ _ _ _ _ (_ :: _) _ _; first | (refine wx1 ?_; clear hk a; intro a hk) | (refine wx2 ?_ ?_ <;> (intro hp; clear hk a; intro a hk)) | (refine wx3 ?_; clear hk hS a; intro w b hS a hk) | (refine wx4 ?_; clear hk hS a; intro w hS a hk) | (refine wx5 ?_; clear hk hS a; intro w v hS a hk) | fail) | refine wx0 ?_ | (refine s_end hk ?_; clear hk a; intro a hk) | fail))
          refine wp_drawn 9 mixed (by kernel_rfl) hk hS ?_; clear hk hS a
          (repeat' (first | (show ObxE _ _ _ _ _ _ _ _ _ (_ :: _) _ _ _; first | refine ox1 ?_ | (refine ox2 ?_ ?_ <;> intro hp) | fail) | fail))
          refine' obe_val (fun us a w hk hd hS => ?_) ?_; rotate_left; focus (have hk := Kn.vw hk (by repeat (first | exact VW.nil | apply VW.val rfl | apply VW.base rfl rfl | apply VW.res rfl | apply VW.upd rfl | apply VW.cpy rfl | apply VW.dep rfl | apply VW.fn rfl | apply VW.lnd rfl | apply VW.tak rfl)); exact g_cat (s := nm) (r := ⟨#[61]⟩) hk (same _ _) (hl := by simp only [ByteArray.size_append, maxLen]; omega))
          (repeat' (first | (show ObxE _ _ _ _ _ _ _ _ _ (_ :: _) _ _ _; first | refine ox1 ?_ | (refine ox2 ?_ ?_ <;> intro hp) | fail) | fail))
          refine' obe_val (fun us a w hk hd hS => ?_) ?_; rotate_left; focus (have hk := Kn.vw hk (by repeat (first | exact VW.nil | apply VW.val rfl | apply VW.base rfl rfl | apply VW.res rfl | apply VW.upd rfl | apply VW.cpy rfl | apply VW.dep rfl | apply VW.fn rfl | apply VW.lnd rfl | apply VW.tak rfl)); exact g_callO hk (hf := by kernel_rfl) (hc := digits_any z hcs.2 _ (ht.mono hS.below)) (h := fun _ _ h => h))
          refine' obe_val (fun us a w hk hd hS => ?_) ?_; rotate_left; focus (have hk := Kn.vw hk (by repeat (first | exact VW.nil | apply VW.val rfl | apply VW.base rfl rfl | apply VW.res rfl | apply VW.upd rfl | apply VW.cpy rfl | apply VW.dep rfl | apply VW.fn rfl | apply VW.lnd rfl | apply VW.tak rfl)); exact g_cat (s := nm ++ ⟨#[61]⟩) (r := itoS z) hk (same _ _) (hl := by simp only [ByteArray.size_append, maxLen]; omega))
          refine' obe_res (V := OwT 9 [nm ++ ⟨#[61]⟩ ++ itoS z]) (fun us a w hk hd hS => ?_) ?_
          · have hk := Kn.vw hk (by repeat (first | exact VW.nil | apply VW.val rfl | apply VW.base rfl rfl | apply VW.res rfl | apply VW.upd rfl | apply VW.cpy rfl | apply VW.dep rfl | apply VW.fn rfl | apply VW.lnd rfl | apply VW.tak rfl))
            exact v_bsT (α := ByteArray) (T := 23) (E := 9) (q := [(0, .tmp 69)]) (z := .string ⟨#[]⟩) (xs := [nm ++ ⟨#[61]⟩ ++ itoS z]) (m := 0) hk (hT := eT rfl) (hE := zT rfl) (hz := oT rfl)
          refine obe_nil ⟨rfl, ?_⟩; intro us a w hk hS
          simp only [resE] at hS
          (repeat' (first | (show wpListIn _ _ _ _ _ (_ :: _) _ _; first | (refine wx1 ?_; clear hk a; intro a hk) | (refine wx2 ?_ ?_ <;> (intro hp; clear hk a; intro a hk)) | (refine wx3 ?_; clear hk hS a; intro w b hS a hk) | (refine wx4 ?_; clear hk hS a; intro w hS a hk) | (refine wx5 ?_; clear hk hS a; intro w v hS a hk) | fail) | refine wx0 ?_ | (refine s_end hk ?_; clear hk a; intro a hk) | fail))
          rename Value => v8
          rw [show (nm ++ ⟨#[61]⟩ ++ itoS z : ByteArray) = styW (nm, z) from rfl, ← hst] at hS
          exact ⟨hil, v8, hk.sd, hS.sub (by (repeat (first | exact Sub.nil | exact Sub.refl | refine Sub.cons (by (repeat (first | exact At.here | apply At.there))) ?_))), trivial⟩
        · have hii : i = S.length := by omega
          subst hii
          rw [List.take_length] at hS hxl3
          have hol := opt_len (e, lv, m, d, p, q)
          have hX3 : X0 ++ cl.map clsW ++ A.map attW ++ S.map styW = X2 ++ S.map styW := by rw [hX1, hX2]
          generalize X2 ++ S.map styW = X3 at *
          by_cases h3 : k = 3
          · have hkn : kindW k = [wGroup] := if_pos h3
            (repeat' (first | (show wpListIn _ _ _ _ _ (_ :: _) _ _; first | (refine wx1 ?_; clear hk a; intro a hk) | (refine wx2 ?_ ?_ <;> (intro hp; clear hk a; intro a hk)) | (refine wx3 ?_; clear hk hS a; intro w b hS a hk) | (refine wx4 ?_; clear hk hS a; intro w hS a hk) | (refine wx5 ?_; clear hk hS a; intro w v hS a hk) | fail) | refine wx0 ?_ | (refine s_end hk ?_; clear hk a; intro a hk) | fail))
            rename Value => v8
            replace hS : St w0 [OwT 9 (X3 ++ [wGroup]) v8, pts b1 [.int .i64 k, .string tag, .string key, .string text, .slice a1 cl.length m1, .slice a2 al.length m2, .slice a3 sl.length m3, .int .i64 e, .int .i64 lv, .int .i64 m, .int .i64 d, .bool p, .bool q, .slice a4 hn m4] 32] w := hS.sub (by (repeat (first | exact Sub.nil | exact Sub.refl | refine Sub.cons (by (repeat (first | exact At.here | apply At.there))) ?_)))
            refine sg hk (g_callO hk (hf := by kernel_rfl) (hc := options_any e lv m d p q he hl hm _ (ht.mono hS.below)) (h := ?_)); clear hk a; rintro vo w hS1 a hk; replace hS := hS.call hS1; clear hS1
            rw [List.cons_append, List.nil_append] at hS
            refine sg hk (g_appT (xs := X3 ++ [wGroup]) (ys := optW (e, lv, m, d, p, q)) hk hS ?_ (hT := eT rfl) (hTx := eT rfl) (hE := zT rfl) (hz := oT rfl) (hzs := rfl) (hs := (by first | exact St.rdT hS (by assumption) | exact OwT.rd (hS.rd (A := OwT _ _ _) (by (repeat (first | exact At.here | apply At.there)))) | assumption)) (hby := bT rfl) (hbytes := by (repeat rw [List.length_append]); (try simp only [List.length_cons, List.length_nil]); omega) (h63 := by (repeat rw [List.length_append]); (try simp only [List.length_cons, List.length_nil]); simp only [maxLen]; omega)); clear hk hS a; intro w vr hS a hk
            (repeat' (first | (show wpListIn _ _ _ _ _ (_ :: _) _ _; first | (refine wx1 ?_; clear hk a; intro a hk) | (refine wx2 ?_ ?_ <;> (intro hp; clear hk a; intro a hk)) | (refine wx3 ?_; clear hk hS a; intro w b hS a hk) | (refine wx4 ?_; clear hk hS a; intro w hS a hk) | (refine wx5 ?_; clear hk hS a; intro w v hS a hk) | fail) | refine wx0 ?_ | (refine s_end hk ?_; clear hk a; intro a hk) | fail))
            refine done1 hk (h := ?_)
            have hS2 : St w0 [OwT 9 (X3 ++ [wGroup] ++ optW (e, lv, m, d, p, q)) vr] w := hS.sub (.cons At.here .nil)
            rw [← hfin] at hS2
            rw [hkn]
            exact hS2
          by_cases h4 : k = 4
          · have hkn : kindW k = [wSlot] := by unfold kindW; rw [if_neg h3, if_pos h4]
            (repeat' (first | (show wpListIn _ _ _ _ _ (_ :: _) _ _; first | (refine wx1 ?_; clear hk a; intro a hk) | (refine wx2 ?_ ?_ <;> (intro hp; clear hk a; intro a hk)) | (refine wx3 ?_; clear hk hS a; intro w b hS a hk) | (refine wx4 ?_; clear hk hS a; intro w hS a hk) | (refine wx5 ?_; clear hk hS a; intro w v hS a hk) | fail) | refine wx0 ?_ | (refine s_end hk ?_; clear hk a; intro a hk) | fail))
            rename Value => v8
            replace hS : St w0 [OwT 9 (X3 ++ [wSlot]) v8, pts b1 [.int .i64 k, .string tag, .string key, .string text, .slice a1 cl.length m1, .slice a2 al.length m2, .slice a3 sl.length m3, .int .i64 e, .int .i64 lv, .int .i64 m, .int .i64 d, .bool p, .bool q, .slice a4 hn m4] 32] w := hS.sub (by (repeat (first | exact Sub.nil | exact Sub.refl | refine Sub.cons (by (repeat (first | exact At.here | apply At.there))) ?_)))
            refine sg hk (g_callO hk (hf := by kernel_rfl) (hc := options_any e lv m d p q he hl hm _ (ht.mono hS.below)) (h := ?_)); clear hk a; rintro vo w hS1 a hk; replace hS := hS.call hS1; clear hS1
            rw [List.cons_append, List.nil_append] at hS
            refine sg hk (g_appT (xs := X3 ++ [wSlot]) (ys := optW (e, lv, m, d, p, q)) hk hS ?_ (hT := eT rfl) (hTx := eT rfl) (hE := zT rfl) (hz := oT rfl) (hzs := rfl) (hs := (by first | exact St.rdT hS (by assumption) | exact OwT.rd (hS.rd (A := OwT _ _ _) (by (repeat (first | exact At.here | apply At.there)))) | assumption)) (hby := bT rfl) (hbytes := by (repeat rw [List.length_append]); (try simp only [List.length_cons, List.length_nil]); omega) (h63 := by (repeat rw [List.length_append]); (try simp only [List.length_cons, List.length_nil]); simp only [maxLen]; omega)); clear hk hS a; intro w vr hS a hk
            (repeat' (first | (show wpListIn _ _ _ _ _ (_ :: _) _ _; first | (refine wx1 ?_; clear hk a; intro a hk) | (refine wx2 ?_ ?_ <;> (intro hp; clear hk a; intro a hk)) | (refine wx3 ?_; clear hk hS a; intro w b hS a hk) | (refine wx4 ?_; clear hk hS a; intro w hS a hk) | (refine wx5 ?_; clear hk hS a; intro w v hS a hk) | fail) | refine wx0 ?_ | (refine s_end hk ?_; clear hk a; intro a hk) | fail))
            refine done1 hk (h := ?_)
            have hS2 : St w0 [OwT 9 (X3 ++ [wSlot] ++ optW (e, lv, m, d, p, q)) vr] w := hS.sub (.cons At.here .nil)
            rw [← hfin] at hS2
            rw [hkn]
            exact hS2
          · have hkn : kindW k = [] := by unfold kindW; rw [if_neg h3, if_neg h4]
            (repeat' (first | (show wpListIn _ _ _ _ _ (_ :: _) _ _; first | (refine wx1 ?_; clear hk a; intro a hk) | (refine wx2 ?_ ?_ <;> (intro hp; clear hk a; intro a hk)) | (refine wx3 ?_; clear hk hS a; intro w b hS a hk) | (refine wx4 ?_; clear hk hS a; intro w hS a hk) | (refine wx5 ?_; clear hk hS a; intro w v hS a hk) | fail) | refine wx0 ?_ | (refine s_end hk ?_; clear hk a; intro a hk) | fail))
            refine sg hk (g_callO hk (hf := by kernel_rfl) (hc := options_any e lv m d p q he hl hm _ (ht.mono hS.below)) (h := ?_)); clear hk a; rintro vo w hS1 a hk; replace hS := hS.call hS1; clear hS1
            rw [List.cons_append, List.nil_append] at hS
            refine sg hk (g_appT (xs := X3) (ys := optW (e, lv, m, d, p, q)) hk hS ?_ (hT := eT rfl) (hTx := eT rfl) (hE := zT rfl) (hz := oT rfl) (hzs := rfl) (hs := (by first | exact St.rdT hS (by assumption) | exact OwT.rd (hS.rd (A := OwT _ _ _) (by (repeat (first | exact At.here | apply At.there)))) | assumption)) (hby := bT rfl) (hbytes := by (repeat rw [List.length_append]); (try simp only [List.length_cons, List.length_nil]); omega) (h63 := by (repeat rw [List.length_append]); (try simp only [List.length_cons, List.length_nil]); simp only [maxLen]; omega)); clear hk hS a; intro w vr hS a hk
            (repeat' (first | (show wpListIn _ _ _ _ _ (_ :: _) _ _; first | (refine wx1 ?_; clear hk a; intro a hk) | (refine wx2 ?_ ?_ <;> (intro hp; clear hk a; intro a hk)) | (refine wx3 ?_; clear hk hS a; intro w b hS a hk) | (refine wx4 ?_; clear hk hS a; intro w hS a hk) | (refine wx5 ?_; clear hk hS a; intro w v hS a hk) | fail) | refine wx0 ?_ | (refine s_end hk ?_; clear hk a; intro a hk) | fail))
            refine done1 hk (h := ?_)
            have hS2 : St w0 [OwT 9 (X3 ++ [] ++ optW (e, lv, m, d, p, q)) vr] w := by rw [List.append_nil]; exact hS.sub (.cons At.here .nil)
            rw [← hfin] at hS2
            rw [hkn]
            exact hS2
end Go.Proofs.YtipdgobplfkipaaDoor
namespace Go.Proofs.YtipdgobplfkipaaDoor
open Go.RowKit
set_option maxRecDepth 100000
attribute [local irreducible] Go.Code.wpIn Go.wpListIn Go.Calls Gives Go.Exit.then Go.Exit.inBlock Done ObxE

set_option maxHeartbeats 8000000 in
theorem print_any : ∀ (n : Nat) (t : Tree) (h : NdH) (w0 : World), SizeOf.sizeOf t < n → PO t → (prnT (snapT t)).size ≤ 900000 → TrR w0 t h → TabW w0 → Calls Tryd.prog 8 #[ndV h] w0 (Ret fun v w => v = .string (prnT (snapT t)) ∧ St w0 [] w)
  | 0, _, _, _, hn, _, _, _, _ => by omega
  | n + 1, t, h, w0, hn, hf, hsz, hr, ht => by
    have ih := print_any n
    obtain ⟨k, tag, key, text, cl, al, sl, e, lv, m, d, p, q, kids, a1, m1, a2, m2, a3, m3, a4, m4, H, rfl, rfl, c1, c2, c3, c4, hF⟩ := hr.split
    obtain ⟨l1, l2, l3, l4, h5, h6, h7⟩ := hf
    have hHk : H.length = kids.length := hF.1
    have e39 : ByteArray.size ⟨#[39]⟩ = 1 := rfl
    have e40 : ByteArray.size ⟨#[40]⟩ = 1 := rfl
    have e41 : ByteArray.size ⟨#[41]⟩ = 1 := rfl
    have e46 : ByteArray.size ⟨#[46]⟩ = 1 := rfl
    have e35 : ByteArray.size ⟨#[35]⟩ = 1 := rfl
    have e61 : ByteArray.size ⟨#[61]⟩ = 1 := rfl
    have e64 : ByteArray.size ⟨#[64]⟩ = 1 := rfl
    rw [snapT, prnT] at hsz ⊢
    show Calls Tryd.prog 8 #[.agg #[.int .i64 k, .string tag, .string key, .string text, .slice a1 cl.length m1, .slice a2 al.length m2, .slice a3 sl.length m3, .int .i64 e, .int .i64 lv, .int .i64 m, .int .i64 d, .bool p, .bool q, .slice a4 H.length m4]] w0 _
    refine enter Tryd.func8 rfl Tryd.ntmps8 rfl (fun a hk => ?_); have hS := St.refl w0
    by_cases hk1 : k = 1
    · rw [if_pos hk1] at hsz ⊢
      simp only [ByteArray.size_append] at hsz
      (repeat' (first | (show wpListIn _ _ _ _ _ (_ :: _) _ _; first | (refine wx1 ?_; clear hk a; intro a hk) | (refine wx2 ?_ ?_ <;> (intro hp; clear hk a; intro a hk)) | (refine wx3 ?_; clear hk hS a; intro w b hS a hk) | (refine wx4 ?_; clear hk hS a; intro w hS a hk) | (refine wx5 ?_; clear hk hS a; intro w v hS a hk) | fail) | refine wx0 ?_ | (refine s_end hk ?_; clear hk a; intro a hk) | fail))
      refine sg hk (g_cat (s := ⟨#[39]⟩) (r := text) hk ?_ (hl := by simp only [ByteArray.size_append, maxLen]; omega)); clear hk a; intro a hk
      refine sg hk (g_cat (s := ⟨#[39]⟩ ++ text) (r := ⟨#[39]⟩) hk ?_ (hl := by simp only [ByteArray.size_append, maxLen]; omega)); clear hk a; intro a hk
      (repeat' (first | (show wpListIn _ _ _ _ _ (_ :: _) _ _; first | (refine wx1 ?_; clear hk a; intro a hk) | (refine wx2 ?_ ?_ <;> (intro hp; clear hk a; intro a hk)) | (refine wx3 ?_; clear hk hS a; intro w b hS a hk) | (refine wx4 ?_; clear hk hS a; intro w hS a hk) | (refine wx5 ?_; clear hk hS a; intro w v hS a hk) | fail) | refine wx0 ?_ | (refine s_end hk ?_; clear hk a; intro a hk) | fail))
      exact done1 hk (h := ⟨rfl, hS.nil⟩)
    · rw [if_neg hk1] at hsz ⊢
      rw [ByteArray.size_append, ByteArray.size_append, e40, e41] at hsz
      have hA := snap_len nmS al
      have hSn := snap_len nmI sl
      have hpc := fun y (hy : y ∈ tag :: (itmW k key cl (snapF nmS al) (snapF nmI sl) (e, lv, m, d, p, q) ++ prnL (snapTs kids))) => piece_le hy
      have hpi : ∀ y ∈ itmW k key cl (snapF nmS al) (snapF nmI sl) (e, lv, m, d, p, q), y.size ≤ 900000 := fun y hy => by
        have := hpc y (List.mem_cons_of_mem _ (List.mem_append_left _ hy)); omega
      have hpk : ∀ u ∈ kids, (prnT (snapT u)).size ≤ 900000 := fun u hu => by
        have := hpc (prnT (snapT u)) (List.mem_cons_of_mem _ (List.mem_append_right _ (by rw [prnL_map, snapTs_map, List.map_map]; exact List.mem_map.2 ⟨u, hu, rfl⟩)))
        omega
      have zk : key.size ≤ 1000000 := by
        by_cases h0 : key = ⟨#[]⟩
        · rw [h0]; exact Nat.zero_le _
        · have := hpi (⟨#[35]⟩ ++ key) (by unfold itmW keyW; rw [if_neg h0]; simp)
          rw [ByteArray.size_append] at this; omega
      have zc : ∀ c ∈ cl, c.size ≤ 1000000 := fun c hc => by
        have := hpi (⟨#[46]⟩ ++ c) (by unfold itmW; simp only [List.mem_append, List.mem_map]; exact .inl (.inl (.inl (.inl (.inr ⟨c, hc, rfl⟩)))))
        rw [ByteArray.size_append] at this; omega
      have za : ∀ x ∈ snapF nmS al, x.1.size ≤ 1000000 ∧ x.2.size ≤ 1000000 := fun x hx => by
        have := hpi (⟨#[64]⟩ ++ x.1 ++ ⟨#[61]⟩ ++ x.2) (by unfold itmW; simp only [List.mem_append, List.mem_map]; exact .inl (.inl (.inl (.inr ⟨x, hx, rfl⟩))))
        simp only [ByteArray.size_append] at this; omega
      have zs : ∀ x ∈ snapF nmI sl, x.1.size ≤ 1000000 ∧ i64R x.2 := fun x hx => by
        have := hpi (x.1 ++ ⟨#[61]⟩ ++ itoS x.2) (by unfold itmW; simp only [List.mem_append, List.mem_map]; exact .inl (.inl (.inr ⟨x, hx, rfl⟩)))
        simp only [ByteArray.size_append] at this
        exact ⟨by omega, h5 x (snap_mem nmI hx)⟩
      have hil0 : (itmW k key cl (snapF nmS al) (snapF nmI sl) (e, lv, m, d, p, q)).length ≤ 3008 := by
        have h1 := opt_len (e, lv, m, d, p, q)
        have h2 : (keyW key).length ≤ 1 := by unfold keyW; split <;> simp
        have h3 : (kindW k).length ≤ 1 := by unfold kindW; split <;> (try split) <;> simp
        unfold itmW
        simp only [List.length_append, List.length_map]
        omega
      have hfj := fold_join tag (itmW k key cl (snapF nmS al) (snapF nmI sl) (e, lv, m, d, p, q) ++ prnL (snapTs kids))
      have hit := fun w0 ht c1 c2 c3 => items_any k tag key text cl al sl e lv m d p q a1 a2 a3 a4 m1 m2 m3 m4 H.length w0 ht c1 c2 c3 l1 l2 l3 zk zc za zs h6.1 h6.2.1 h6.2.2
      generalize itmW k key cl (snapF nmS al) (snapF nmI sl) (e, lv, m, d, p, q) = I at *
      (repeat' (first | (show wpListIn _ _ _ _ _ (_ :: _) _ _; first | (refine wx1 ?_; clear hk a; intro a hk) | (refine wx2 ?_ ?_ <;> (intro hp; clear hk a; intro a hk)) | (refine wx3 ?_; clear hk hS a; intro w b hS a hk) | (refine wx4 ?_; clear hk hS a; intro w hS a hk) | (refine wx5 ?_; clear hk hS a; intro w v hS a hk) | fail) | refine wx0 ?_ | (refine s_end hk ?_; clear hk a; intro a hk) | fail))
      refine sg hk (g_callO hk (hf := by kernel_rfl) (hc := hit _ (ht.mono hS.below) (hS.rdT c1) (hS.rdT c2) (hS.rdT c3)) (h := ?_)); clear hk a; rintro v7 w hS1 a hk; replace hS := hS.call hS1; clear hS1
      rw [List.cons_append, List.nil_append] at hS
      have c4' := hS.rdT c4
      (repeat' (first | (show wpListIn _ _ _ _ _ (_ :: _) _ _; first | (refine wx1 ?_; clear hk a; intro a hk) | (refine wx2 ?_ ?_ <;> (intro hp; clear hk a; intro a hk)) | (refine wx3 ?_; clear hk hS a; intro w b hS a hk) | (refine wx4 ?_; clear hk hS a; intro w hS a hk) | (refine wx5 ?_; clear hk hS a; intro w v hS a hk) | fail) | refine wx0 ?_ | (refine s_end hk ?_; clear hk a; intro a hk) | fail))
      replace hS : St w0 [OwT 9 ((tag :: I) ++ prnL (snapTs (kids.take 0))) v7] w := by rw [List.take_zero, snapTs, prnL, List.append_nil]; exact hS.sub (by (repeat (first | exact Sub.nil | exact Sub.refl | refine Sub.cons (by (repeat (first | exact At.here | apply At.there))) ?_)))
      replace hk := Kn.kp [3, 16, 17, 18] hk
      refine wp_for H.length (fun i v => [(3, v), (18, .int .i64 (i : Int))]) (fun i v => [OwT 9 ((tag :: I) ++ prnL (snapTs (kids.take i))) v]) (fun _ _ => True) v7 hk (by repeat (first | exact trivial | refine ⟨rfl, ?_⟩)) hS.sb trivial ?_
      clear hk hS a c4'
      rintro i v7 a w hi hk hS -
      have c4' := hS.rdT c4
      have hxl : ((tag :: I) ++ prnL (snapTs (kids.take i))).length = I.length + 1 + i := by rw [List.length_append, List.length_cons, prnL_map, List.length_map, snapTs_len, List.length_take]; omega
      by_cases hil : i < H.length
      · obtain ⟨tk, htk⟩ : ∃ t, kids[i]? = some t := ⟨_, List.getElem?_eq_getElem (by omega)⟩
        obtain ⟨hd0, hx⟩ : ∃ x, H[i]? = some x := ⟨_, List.getElem?_eq_getElem hil⟩
        have hTr := hF.2 i tk hd0 htk hx
        have hmk := List.mem_of_getElem? htk
        have hlt : SizeOf.sizeOf tk < n := by have := kid_lt (k := k) (tag := tag) (key := key) (text := text) (cl := cl) (at_ := al) (st := sl) (o := (e, lv, m, d, p, q)) hmk; omega
        have hst : (tag :: I) ++ prnL (snapTs (kids.take (i + 1))) = ((tag :: I) ++ prnL (snapTs (kids.take i))) ++ [prnT (snapT tk)] := by rw [take_snoc htk, snapTs_app, prnL_app, List.append_assoc]; rfl
        generalize (tag :: I) ++ prnL (snapTs (kids.take i)) = Y at *
        obtain ⟨k', tag', key', text', ⟨x1, x2, x3⟩, ⟨y1, y2, y3⟩, ⟨z1, z2, z3⟩, ⟨e', lv', m', d', p', q'⟩, ⟨u1, u2, u3⟩⟩ := hd0
        (repeat' (first | (show wpListIn _ _ _ _ _ (_ :: _) _ _; first | (refine wx1 ?_; clear hk a; intro a hk) | (refine wx2 ?_ ?_ <;> (intro hp; clear hk a; intro a hk)) | (refine wx3 ?_; clear hk hS a; intro w b hS a hk) | (refine wx4 ?_; clear hk hS a; intro w hS a hk) | (refine wx5 ?_; clear hk hS a; intro w v hS a hk) | fail) | refine wx0 ?_ | (refine s_end hk ?_; clear hk a; intro a hk) | fail))
        refine sg hk (g_callO hk (hf := by kernel_rfl) (hc := ih tk (k', tag', key', text', ⟨x1, x2, x3⟩, ⟨y1, y2, y3⟩, ⟨z1, z2, z3⟩, (e', lv', m', d', p', q'), ⟨u1, u2, u3⟩) _ hlt (h7 tk hmk) (hpk tk hmk) (hS.rdTr hTr) (ht.mono hS.below)) (h := ?_)); clear hk a; rintro _ w ⟨rfl, hS1⟩ a hk; replace hS := hS.call0 hS1; clear hS1
        (repeat' (first | (show wpListIn _ _ _ _ _ (_ :: _) _ _; first | (refine wx1 ?_; clear hk a; intro a hk) | (refine wx2 ?_ ?_ <;> (intro hp; clear hk a; intro a hk)) | (refine wx3 ?_; clear hk hS a; intro w b hS a hk) | (refine wx4 ?_; clear hk hS a; intro w hS a hk) | (refine wx5 ?_; clear hk hS a; intro w v hS a hk) | fail) | refine wx0 ?_ | (refine s_end hk ?_; clear hk a; intro a hk) | fail))
        rename Value => v8
        rw [← hst] at hS
        exact ⟨hil, v8, hk.sd, hS.sub (by (repeat (first | exact Sub.nil | exact Sub.refl | refine Sub.cons (by (repeat (first | exact At.here | apply At.there))) ?_))), trivial⟩
      · have hii : i = kids.length := by omega
        subst hii
        rw [List.take_length] at hS hxl
        rw [List.cons_append] at hS hxl
        generalize prnL (snapTs kids) = Kd at *
        (repeat' (first | (show wpListIn _ _ _ _ _ (_ :: _) _ _; first | (refine wx1 ?_; clear hk a; intro a hk) | (refine wx2 ?_ ?_ <;> (intro hp; clear hk a; intro a hk)) | (refine wx3 ?_; clear hk hS a; intro w b hS a hk) | (refine wx4 ?_; clear hk hS a; intro w hS a hk) | (refine wx5 ?_; clear hk hS a; intro w v hS a hk) | fail) | refine wx0 ?_ | (refine s_end hk ?_; clear hk a; intro a hk) | fail))
        refine sg hk (g_callO hk (hf := by kernel_rfl) (hc := joinX_any 900000 (by omega) (tag :: (I ++ Kd)) (by simp) (by omega) (fun s hs => by have := hpc s hs; omega) v7 _ (by first | exact St.rdT hS (by assumption) | exact OwT.rd (hS.rd (A := OwT _ _ _) (by (repeat (first | exact At.here | apply At.there)))) | assumption)) (h := ?_)); clear hk a; rintro _ w ⟨rfl, hS1⟩ a hk; replace hS := hS.call0 hS1; clear hS1
        rw [← hfj] at hk
        refine sg hk (g_cat (s := ⟨#[40]⟩) (r := (I ++ Kd).foldl addW tag) hk ?_ (hl := by simp only [ByteArray.size_append, maxLen]; omega)); clear hk a; intro a hk
        refine sg hk (g_cat (s := ⟨#[40]⟩ ++ (I ++ Kd).foldl addW tag) (r := ⟨#[41]⟩) hk ?_ (hl := by simp only [ByteArray.size_append, maxLen]; omega)); clear hk a; intro a hk
        (repeat' (first | (show wpListIn _ _ _ _ _ (_ :: _) _ _; first | (refine wx1 ?_; clear hk a; intro a hk) | (refine wx2 ?_ ?_ <;> (intro hp; clear hk a; intro a hk)) | (refine wx3 ?_; clear hk hS a; intro w b hS a hk) | (refine wx4 ?_; clear hk hS a; intro w hS a hk) | (refine wx5 ?_; clear hk hS a; intro w v hS a hk) | fail) | refine wx0 ?_ | (refine s_end hk ?_; clear hk a; intro a hk) | fail))
        exact done1 hk (h := ⟨rfl, hS.nil⟩)
end Go.Proofs.YtipdgobplfkipaaDoor
namespace Go.Proofs.YtipdgobplfkipaaDoor
open Go.RowKit

def awk1 : ByteArray := ⟨#[40, 112, 32, 35, 97, 32, 46, 111, 110, 32, 119, 61, 51, 32, 39, 104, 105, 39, 41]⟩
def awk2 : ByteArray := ⟨#[40, 112, 32, 35, 97, 32, 35, 98, 41]⟩
theorem awk1_is : parseF awk1 = .ok (.mk 2 ⟨#[112]⟩ ⟨#[97]⟩ ⟨#[]⟩ [⟨#[111, 110]⟩] [] [(⟨#[119]⟩, 3)] o0 [.mk 1 ⟨#[]⟩ ⟨#[]⟩ ⟨#[104, 105]⟩ [] [] [] o0 []]) 0 := by kernel_rfl
theorem awk2_is : parseF awk2 = .no 6 2 := by kernel_rfl
def repB (x : List UInt8) : Nat → List UInt8
  | 0 => []
  | n + 1 => repB x n ++ x
def deepS (n : Nat) (wide : Bool) : ByteArray := ⟨(repB [40, 112, 32] n ++ (if wide then [39, 120, 39] else []) ++ repB [41] n).toArray⟩
def chnT (wide : Bool) : Nat → Tree
  | 0 => .mk 1 ⟨#[]⟩ ⟨#[]⟩ ⟨#[120]⟩ [] [] [] o0 []
  | n + 1 => .mk 2 ⟨#[112]⟩ ⟨#[]⟩ ⟨#[]⟩ [] [] [] o0 (if n = 0 ∧ wide = false then [] else [chnT wide n])
theorem deep_is : ∀ (k : Nat) (wide : Bool), k < 6 → parseF (deepS (35 + k) wide) = .ok (chnT wide (35 + k)) 0
  | 0, false, _ => by kernel_rfl
  | 0, true, _ => by kernel_rfl
  | 1, false, _ => by kernel_rfl
  | 1, true, _ => by kernel_rfl
  | 2, false, _ => by kernel_rfl
  | 2, true, _ => by kernel_rfl
  | 3, false, _ => by kernel_rfl
  | 3, true, _ => by kernel_rfl
  | 4, false, _ => by kernel_rfl
  | 4, true, _ => by kernel_rfl
  | 5, false, _ => by kernel_rfl
  | 5, true, _ => by kernel_rfl
  | k + 6, _, h => absurd h (by omega)
theorem deep_no : ∀ (k : Nat) (wide : Bool), k < 10 → parseF (deepS (41 + k) wide) = .no 120 7
  | 0, false, _ => by kernel_rfl
  | 0, true, _ => by kernel_rfl
  | 1, false, _ => by kernel_rfl
  | 1, true, _ => by kernel_rfl
  | 2, false, _ => by kernel_rfl
  | 2, true, _ => by kernel_rfl
  | 3, false, _ => by kernel_rfl
  | 3, true, _ => by kernel_rfl
  | 4, false, _ => by kernel_rfl
  | 4, true, _ => by kernel_rfl
  | 5, false, _ => by kernel_rfl
  | 5, true, _ => by kernel_rfl
  | 6, false, _ => by kernel_rfl
  | 6, true, _ => by kernel_rfl
  | 7, false, _ => by kernel_rfl
  | 7, true, _ => by kernel_rfl
  | 8, false, _ => by kernel_rfl
  | 8, true, _ => by kernel_rfl
  | 9, false, _ => by kernel_rfl
  | 9, true, _ => by kernel_rfl
  | k + 10, _, h => absurd h (by omega)
end Go.Proofs.YtipdgobplfkipaaDoor
namespace Go.Proofs.YtipdgobplfkipaaDoor
open Go.RowKit
set_option maxRecDepth 100000
attribute [local irreducible] Go.Code.wpIn Go.wpListIn Go.Calls Gives Go.Exit.then Go.Exit.inBlock Done ObxE

abbrev awkK : Tree := .mk 1 ⟨#[]⟩ ⟨#[]⟩ ⟨#[104, 105]⟩ [] [] [] o0 []
abbrev awkT : Tree := .mk 2 ⟨#[112]⟩ ⟨#[97]⟩ ⟨#[]⟩ [⟨#[111, 110]⟩] [] [(⟨#[119]⟩, 3)] o0 [awkK]
theorem awkT_snap : snapT awkT = awkT := by kernel_rfl
theorem awkT_prn : prnT (snapT awkT) = awk1 := by kernel_rfl
theorem awkT_po : PO awkT := by
  have z : i64R 0 := by unfold i64R; omega
  refine .mk (by decide) (by decide) (by decide) (by decide) ?_ ⟨z, z, z⟩ ?_
  · intro x hx; rw [List.mem_singleton] at hx; subst hx; unfold i64R; exact ⟨by decide, by decide⟩
  · intro t ht
    rw [List.mem_singleton] at ht
    subst ht
    exact .mk (by decide) (by decide) (by decide) (by decide) (by simp) ⟨z, z, z⟩ (by simp)

set_option maxHeartbeats 4000000 in
theorem awake_any (w0 : World) (ht : TabW w0) : Calls Tryd.prog 4 #[] w0 (Ret fun v w => v = .bool true ∧ St w0 [] w) := by
  refine enter (args := []) Tryd.func4 rfl Tryd.ntmps4 rfl (fun a hk => ?_); have hS := St.refl w0
  (repeat' (first | (show wpListIn _ _ _ _ _ (_ :: _) _ _; first | (refine wx1 ?_; clear hk a; intro a hk) | (refine wx2 ?_ ?_ <;> (intro hp; clear hk a; intro a hk)) | (refine wx3 ?_; clear hk hS a; intro w b hS a hk) | (refine wx4 ?_; clear hk hS a; intro w hS a hk) | (refine wx5 ?_; clear hk hS a; intro w v hS a hk) | fail) | refine wx0 ?_ | (refine s_end hk ?_; clear hk a; intro a hk) | fail))
  refine sg hk (g_callO hk (hf := by kernel_rfl) (hc := parseL_any awk1 (by show (19 : Nat) ≤ _; omega) hS) (h := ?_)); clear hk hS a; intro vr w hS a hk
  rw [awk1_is] at hS
  obtain ⟨u, rfl, hS⟩ := hS
  rw [awkT_snap] at hS
  obtain ⟨hd1, rfl, hS1⟩ := St.tree hS .here
  clear hS
  have hS := hS1
  clear hS1
  obtain ⟨k, tag, key, text, cl, al, sl, e, lv, m, d, p, q, kids, A1, M1, A2, M2, A3, M3, A4, M4, H, he, rfl, -, -, -, -, hF⟩ := (hS.trR .here).split
  injection he with q1 q2 q3 q4 q5 q6 q7 q8 q9
  injection q8 with q10 q11
  injection q11 with q11 q12
  injection q12 with q12 q13
  injection q13 with q13 q14
  injection q14 with q14 q15
  subst q1 q2 q3 q4 q5 q6 q7 q9 q10 q11 q12 q13 q14 q15
  have hHl : H.length = 1 := hF.1
  rw [hHl] at hS hk
  (repeat' (first | (show wpListIn _ _ _ _ _ (_ :: _) _ _; first | (refine wx1 ?_; clear hk a; intro a hk) | (refine wx2 ?_ ?_ <;> (intro hp; clear hk a; intro a hk)) | (refine wx3 ?_; clear hk hS a; intro w b hS a hk) | (refine wx4 ?_; clear hk hS a; intro w hS a hk) | (refine wx5 ?_; clear hk hS a; intro w v hS a hk) | fail) | refine wx0 ?_ | (refine s_end hk ?_; clear hk a; intro a hk) | fail))
  refine sg hk (g_callO hk (hf := by kernel_rfl) (hc := parseL_any awk2 (by show (9 : Nat) ≤ _; omega) hS) (h := ?_)); clear hk hS a; intro vr w hS a hk
  rw [awk2_is] at hS
  obtain ⟨rfl, hS⟩ := hS
  (repeat' (first | (show wpListIn _ _ _ _ _ (_ :: _) _ _; first | (refine wx1 ?_; clear hk a; intro a hk) | (refine wx2 ?_ ?_ <;> (intro hp; clear hk a; intro a hk)) | (refine wx3 ?_; clear hk hS a; intro w b hS a hk) | (refine wx4 ?_; clear hk hS a; intro w hS a hk) | (refine wx5 ?_; clear hk hS a; intro w v hS a hk) | fail) | refine wx0 ?_ | (refine s_end hk ?_; clear hk a; intro a hk) | fail))
  have hr := hS.trR (t := awkT) (by (repeat (first | exact At.here | apply At.there)))
  have hr2 := hr
  cases hr with
  | mk c1 c2 c3 c4 hl2 hkr =>
  rename_i H2
  have hl3 : H2.length = 1 := hl2
  have c4' : SlT H2 (.slice A4 1 M4) w := c4
  clear c1 c2 c3 c4 hl2
  obtain ⟨hd0, hx⟩ : ∃ x, H2[0]? = some x := ⟨_, List.getElem?_eq_getElem (by omega)⟩
  have hT0 := hkr 0 awkK hd0 rfl hx
  clear hkr
  cases hT0 with
  | mk d1 d2 d3 d4 dl dr =>
  clear d1 d2 d3 d4 dl dr
  (repeat' (first | (show wpListIn _ _ _ _ _ (_ :: _) _ _; first | (refine wx1 ?_; clear hk a; intro a hk) | (refine wx2 ?_ ?_ <;> (intro hp; clear hk a; intro a hk)) | (refine wx3 ?_; clear hk hS a; intro w b hS a hk) | (refine wx4 ?_; clear hk hS a; intro w hS a hk) | (refine wx5 ?_; clear hk hS a; intro w v hS a hk) | fail) | refine wx0 ?_ | (refine s_end hk ?_; clear hk a; intro a hk) | fail))
  refine sg hk (g_callO hk (hf := by kernel_rfl) (hc := print_any _ awkT _ _ (Nat.lt_succ_self _) awkT_po (by rw [awkT_prn]; show (19 : Nat) ≤ _; omega) hr2 (ht.mono hS.below)) (h := ?_)); clear hk a; rintro _ w ⟨rfl, hS1⟩ a hk; replace hS := hS.call0 hS1; clear hS1
  rw [awkT_prn] at hk
  (repeat' (first | (show wpListIn _ _ _ _ _ (_ :: _) _ _; first | (refine wx1 ?_; clear hk a; intro a hk) | (refine wx2 ?_ ?_ <;> (intro hp; clear hk a; intro a hk)) | (refine wx3 ?_; clear hk hS a; intro w b hS a hk) | (refine wx4 ?_; clear hk hS a; intro w hS a hk) | (refine wx5 ?_; clear hk hS a; intro w v hS a hk) | fail) | refine wx0 ?_ | (refine s_end hk ?_; clear hk a; intro a hk) | fail))
  exact done1 hk (h := ⟨rfl, hS.nil⟩)
end Go.Proofs.YtipdgobplfkipaaDoor
namespace Go.Proofs.YtipdgobplfkipaaDoor
open Go.RowKit
set_option maxRecDepth 100000
attribute [local irreducible] Go.Code.wpIn Go.wpListIn Go.Calls Gives Go.Exit.then Go.Exit.inBlock Done ObxE

def cutF (s : ByteArray) (n : Nat) : ByteArray := if n < s.size then s.extract 0 n else s

end Go.Proofs.YtipdgobplfkipaaDoor
namespace Go.Proofs.YtipdgobplfkipaaDoor
open Go.RowKit
set_option maxRecDepth 100000
attribute [local irreducible] Go.Code.wpIn Go.wpListIn Go.Calls Gives Go.Exit.then Go.Exit.inBlock Done ObxE

def few04 (l : List PrI) (n : Nat) : List PrI := (l.take n).map (fun p => (cutF p.1 20, p.2))
end Go.Proofs.YtipdgobplfkipaaDoor
namespace Go.Proofs.YtipdgobplfkipaaDoor
open Go.RowKit
set_option maxRecDepth 100000
attribute [local irreducible] Go.Code.wpIn Go.wpListIn Go.Calls Gives Go.Exit.then Go.Exit.inBlock Done ObxE

section
variable {α β κ : Type} [DecidableEq κ] [Lin κ] {key : α → κ} {key' : β → κ} {f : α → β}
end

def idxF (l : List PrS) (n : Nat) : List PrI := (List.range n).map (fun i : Nat => ((l[i]?.getD (⟨#[]⟩, ⟨#[]⟩)).1, (i : Int)))
def atI (l : List PrS) (p : PrI) : PrS := l[p.2.toNat]?.getD (⟨#[]⟩, ⟨#[]⟩)
end Go.Proofs.YtipdgobplfkipaaDoor
namespace Go.Proofs.YtipdgobplfkipaaDoor
open Go.RowKit
set_option maxRecDepth 100000
attribute [local irreducible] Go.Code.wpIn Go.wpListIn Go.Calls Gives Go.Exit.then Go.Exit.inBlock Done ObxE

open Classical in
noncomputable def addC (l : List ByteArray) (c : ByteArray) : List ByteArray := if c ∈ l then l else l ++ [c]
noncomputable def clnC (l : List ByteArray) : List ByteArray := l.foldl addC []
end Go.Proofs.YtipdgobplfkipaaDoor
namespace Go.Proofs.YtipdgobplfkipaaDoor
open Go.RowKit
set_option maxRecDepth 100000
attribute [local irreducible] Go.Code.wpIn Go.wpListIn Go.Calls Gives Go.Exit.then Go.Exit.inBlock Done ObxE

def few03 (l : List ByteArray) (n : Nat) : List ByteArray := (l.take n).map (fun c => cutF c 20)
end Go.Proofs.YtipdgobplfkipaaDoor
namespace Go.Proofs.YtipdgobplfkipaaDoor
open Go.RowKit
set_option maxRecDepth 100000
attribute [local irreducible] Go.Code.wpIn Go.wpListIn Go.Calls Gives Go.Exit.then Go.Exit.inBlock Done ObxE

end Go.Proofs.YtipdgobplfkipaaDoor
namespace Go.Proofs.YtipdgobplfkipaaDoor
open Go.RowKit
set_option maxRecDepth 100000
attribute [local irreducible] Go.Code.wpIn Go.wpListIn Go.Calls Gives Go.Exit.then Go.Exit.inBlock Done ObxE

abbrev FlH := Int × Int × ByteArray × ByteArray × ByteArray × Hd × Hd × Hd × Opt
abbrev flV (h : FlH) : Value := .agg (Enc.f h).toArray
def fewA (l : List (ByteArray × ByteArray)) (n : Nat) : List (ByteArray × ByteArray) := (l.take n).map (fun p => (cutF p.1 20, cutF p.2 40))
def nodeF (k : Int) (tag key text : ByteArray) (cl : List ByteArray) (al : List (ByteArray × ByteArray)) (sl : List (ByteArray × Int)) (o : Opt) : Tree :=
  .mk k (cutF tag 20) (cutF key 20) (cutF text 70) (few03 cl 4) (fewA al 4) (few04 sl 4) o []

end Go.Proofs.YtipdgobplfkipaaDoor
namespace Go.Proofs.YtipdgobplfkipaaDoor
open Go.RowKit
set_option maxRecDepth 100000
attribute [local irreducible] Go.Code.wpIn Go.wpListIn Go.Calls Gives Go.Exit.then Go.Exit.inBlock Done ObxE

def in64 (x : Int) : Prop := -9223372036854775808 ≤ x ∧ x ≤ 9223372036854775807
def FlR (w : World) (h : FlH) : Prop := ∃ (dp k : Int) (tag key text : ByteArray) (cl : List ByteArray) (al : List (ByteArray × ByteArray)) (sl : List (ByteArray × Int)) (e lv m d : Int) (p q : Bool) (a1 a2 a3 : Option Addr) (m1 m2 m3 : Nat),
  h = (dp, k, tag, key, text, ⟨a1, cl.length, m1⟩, ⟨a2, al.length, m2⟩, ⟨a3, sl.length, m3⟩, (e, lv, m, d, p, q)) ∧ SlT cl (.slice a1 cl.length m1) w ∧ SlT al (.slice a2 al.length m2) w ∧ SlT sl (.slice a3 sl.length m3) w ∧
  in64 dp ∧ in64 k ∧ in64 e ∧ in64 lv ∧ in64 m ∧ in64 d ∧ ∀ x ∈ sl, in64 x.2

def okN (k : Int) (tag key text : ByteArray) (cl : List ByteArray) (al : List (ByteArray × ByteArray)) (sl : List (ByteArray × Int)) (o : Opt) : Prop :=
  in64 k ∧ tag.size ≤ 20 ∧ key.size ≤ 20 ∧ text.size ≤ 70 ∧ cl.length ≤ 4 ∧ (∀ c ∈ cl, c.size ≤ 20) ∧ al.length ≤ 4 ∧ (∀ x ∈ al, x.1.size ≤ 20 ∧ x.2.size ≤ 40) ∧ sl.length ≤ 4 ∧ (∀ x ∈ sl, x.1.size ≤ 20 ∧ in64 x.2) ∧
  in64 o.1 ∧ in64 o.2.1 ∧ in64 o.2.2.1 ∧ in64 o.2.2.2.1
inductive Small : Tree → Prop where
  | mk {k : Int} {tag key text : ByteArray} {cl : List ByteArray} {al : List (ByteArray × ByteArray)} {sl : List (ByteArray × Int)} {o : Opt} {kids : List Tree} (h : okN k tag key text cl al sl o) (hk : ∀ t ∈ kids, Small t) : Small (.mk k tag key text cl al sl o kids)
mutual
def cnt : Tree → Nat
  | .mk _ _ _ _ _ _ _ _ kids => cntL kids + 1
def cntL : List Tree → Nat
  | [] => 0
  | t :: ts => cnt t + cntL ts
end
theorem cntL_mem : ∀ {ts : List Tree} {t : Tree}, t ∈ ts → cnt t ≤ cntL ts
  | t :: ts, u, h => by
    rcases List.mem_cons.1 h with rfl | h
    · simp only [cntL]; omega
    · have := cntL_mem h; simp only [cntL]; omega

structure KS where
  at_ : Nat
  ts : List Tree
  H : List NdH
  a : Option Addr
  c : Nat

end Go.Proofs.YtipdgobplfkipaaDoor
namespace Go.Proofs.YtipdgobplfkipaaDoor
open Go.RowKit

def Tree.kind : Tree → Int
  | .mk k _ _ _ _ _ _ _ _ => k
def Tree.text : Tree → ByteArray
  | .mk _ _ _ x _ _ _ _ _ => x
def Tree.plus : Tree → ByteArray → Tree
  | .mk k tag key text cl al sl o ks, x => .mk k tag key (text ++ x) cl al sl o ks
def Tree.void (t : Tree) : Prop := t.kind = 1 ∧ t.text = ⟨#[]⟩
instance (t : Tree) : Decidable t.void := by unfold Tree.void; exact inferInstance

def mrgS (out : List Tree) (t : Tree) : List Tree :=
  match out.getLast? with
  | some u => if t.kind = 1 ∧ u.kind = 1 then out.dropLast ++ [u.plus t.text] else out ++ [t]
  | none => out ++ [t]
def mrg (l : List Tree) : List Tree := l.foldl mrgS []
noncomputable section
mutual
def nrm : Tree → Tree
  | .mk k tag key text cl al sl o kids => .mk k tag key text (clnC cl) (snapF nmS al) (snapF nmI sl) o (mrg (nrmL kids))
def nrmL : List Tree → List Tree
  | [] => []
  | t :: ts => if t.void then nrmL ts else nrm t :: nrmL ts
end
end
def txtL (l : List Tree) : Nat := l.foldl (fun n t => n + t.text.size) 0
inductive Fit (X : Nat) : Tree → Prop
  | mk {k : Int} {tag key text : ByteArray} {cl : List ByteArray} {at_ : List (ByteArray × ByteArray)} {st : List (ByteArray × Int)} {o : Opt} {kids : List Tree}
    (h1 : cl.length ≤ 100) (h2 : at_.length ≤ 100) (h3 : st.length ≤ 100) (h4 : kids.length ≤ 1000) (h5 : text.size ≤ X) (h6 : ∀ t ∈ kids, Fit X t) : Fit X (.mk k tag key text cl at_ st o kids)
end Go.Proofs.YtipdgobplfkipaaDoor
namespace Go.Proofs.YtipdgobplfkipaaDoor
open Go.RowKit

mutual
def dep : Tree → Nat
  | .mk _ _ _ _ _ _ _ _ kids => depL kids + 1
def depL : List Tree → Nat
  | [] => 0
  | t :: ts => max (dep t) (depL ts)
end
mutual
def lng : Tree → Int
  | .mk _ _ _ _ _ _ _ (e, lv, m, _) kids => max (max 0 (max e (max lv m))) (lngL kids)
def lngL : List Tree → Int
  | [] => 0
  | t :: ts => max (lng t) (lngL ts)
end
def sumN (l : List Nat) : Nat := l.foldl (· + ·) 0
def mxI (l : List Int) : Int := l.foldl max 0
theorem mxI_from : ∀ (l : List Int) (a : Int), l.foldl max a = max a (l.foldl max a)
  | [], a => by simp
  | x :: l, a => by
    simp only [List.foldl_cons]
    rw [mxI_from l (max a x)]
    omega
theorem mx_comm : ∀ (l : List Int) (a b : Int), l.foldl max (max a b) = max a (l.foldl max b)
  | [], a, b => by simp
  | x :: l, a, b => by
    simp only [List.foldl_cons]
    rw [show max (max a b) x = max a (max b x) by omega, mx_comm l a (max b x)]
theorem mx_mem {l : List Int} {a b : Int} (h : b ∈ l ∨ b = a) : l.foldl max (max a b) = l.foldl max a := by
  rcases h with h | rfl
  · induction l generalizing a with
    | nil => cases h
    | cons x l ih =>
      simp only [List.foldl_cons]
      rcases List.mem_cons.1 h with rfl | h
      · congr 1; omega
      · rw [show max (max a b) x = max (max a x) b by omega, ih h]
  · congr 1; omega
theorem mx_zero {x : Int} {l : List Int} (h : (0 : Int) ∈ x :: l) : l.foldl max x = mxI (x :: l) := by
  unfold mxI
  rw [List.foldl_cons]
  rcases List.mem_cons.1 h with h | h
  · subst h; simp
  · rw [show max 0 x = max x 0 by omega, mx_mem (.inl h)]
theorem mx_app (l r : List Int) : mxI (l ++ r) = max (mxI l) (mxI r) := by
  unfold mxI
  rw [List.foldl_append]
  have := mx_comm r (l.foldl max 0) 0
  rw [← this]
  congr 1
  have := mxI_from l 0
  omega
theorem mx_cons (x : Int) (l : List Int) : mxI (x :: l) = max (max 0 x) (mxI l) := by
  have := mx_app [x] l
  simpa [mxI] using this
theorem depL_mx (ts : List Tree) : mxI (ts.map (fun t => (dep t : Int))) = (depL ts : Int) := by
  induction ts with
  | nil => rfl
  | cons t ts ih => rw [List.map_cons, mx_cons, ih]; simp only [depL]; omega
theorem dep_cnt : ∀ (n : Nat) (t : Tree), SizeOf.sizeOf t < n → dep t ≤ cnt t
  | 0, _, h => by omega
  | n + 1, .mk k tag key text cl al sl o kids, h => by
    have hk : ∀ t ∈ kids, dep t ≤ cnt t := fun t ht => dep_cnt n t (by have := kid_lt (k := k) (tag := tag) (key := key) (text := text) (cl := cl) (at_ := al) (st := sl) (o := o) ht; omega)
    simp only [dep, cnt]
    have : ∀ ts : List Tree, (∀ t ∈ ts, dep t ≤ cnt t) → depL ts ≤ cntL ts := by
      intro ts
      induction ts with
      | nil => intro _; simp [depL, cntL]
      | cons t ts ih =>
        intro h
        have h1 := h t (by simp)
        have h2 := ih (fun t ht => h t (by simp [ht]))
        simp only [depL, cntL]
        omega
    have := this kids hk
    omega
theorem dep_le (t : Tree) : dep t ≤ cnt t := dep_cnt _ t (Nat.lt_succ_self _)
end Go.Proofs.YtipdgobplfkipaaDoor
namespace Go.Proofs.YtipdgobplfkipaaDoor
open Go.RowKit
set_option maxRecDepth 100000
attribute [local irreducible] Go.Code.wpIn Go.wpListIn Go.Calls Gives Go.Exit.then Go.Exit.inBlock Done ObxE

def natI (l : List Nat) : List Int := l.map (fun n : Nat => (n : Int))
theorem max_any (x : Int) (l : List Int) (v : Value) (w0 : World) (hv : SlT (x :: l) v w0) (hl : l.length ≤ 100000) : Calls Tryd.prog 15 #[v] w0 (Ret fun v w => v = .int .i64 (l.foldl max x) ∧ St w0 [] w) := by
  have hlen : (x :: l).length = l.length + 1 := rfl
  have hx0 : (x :: l)[0]? = some x := rfl
  refine enter Tryd.func15 rfl Tryd.ntmps15 rfl (fun a hk => ?_); have hS := St.refl w0
  (repeat' (first | (show wpListIn _ _ _ _ _ (_ :: _) _ _; first | (refine wx1 ?_; clear hk a; intro a hk) | (refine wx2 ?_ ?_ <;> (intro hp; clear hk a; intro a hk)) | (refine wx3 ?_; clear hk hS a; intro w b hS a hk) | (refine wx4 ?_; clear hk hS a; intro w hS a hk) | (refine wx5 ?_; clear hk hS a; intro w v hS a hk) | fail) | refine wx0 ?_ | (refine s_end hk ?_; clear hk a; intro a hk) | fail))
  replace hk := Kn.kp [0, 3, 4] hk
  refine wp_for l.length (fun i _ => [(3, .int .i64 ((l.take i).foldl max x)), (4, .int .i64 ((i + 1 : Nat) : Int))]) (fun _ _ => []) (fun _ _ => True) () hk (by repeat (first | exact trivial | refine ⟨rfl, ?_⟩)) hS.sb trivial ?_
  clear hk hS a
  rintro i - a w hi hk hS -
  by_cases hil : i < l.length
  · obtain ⟨y, hy⟩ : ∃ y, l[i]? = some y := ⟨_, List.getElem?_eq_getElem hil⟩
    have hy1 : (x :: l)[i + 1]? = some y := by simpa using hy
    have hst : (l.take (i + 1)).foldl max x = max ((l.take i).foldl max x) y := by rw [take_snoc hy, List.foldl_append]; rfl
    (repeat' (first | (show wpListIn _ _ _ _ _ (_ :: _) _ _; first | (refine wx1 ?_; clear hk a; intro a hk) | (refine wx2 ?_ ?_ <;> (intro hp; clear hk a; intro a hk)) | (refine wx3 ?_; clear hk hS a; intro w b hS a hk) | (refine wx4 ?_; clear hk hS a; intro w hS a hk) | (refine wx5 ?_; clear hk hS a; intro w v hS a hk) | fail) | refine wx0 ?_ | (refine s_end hk ?_; clear hk a; intro a hk) | fail))
    rw [← hst] at hk
    exact ⟨hil, (), hk.sd, hS.sb, trivial⟩
  · have : i = l.length := by omega
    subst this
    rw [List.take_length] at hk
    (repeat' (first | (show wpListIn _ _ _ _ _ (_ :: _) _ _; first | (refine wx1 ?_; clear hk a; intro a hk) | (refine wx2 ?_ ?_ <;> (intro hp; clear hk a; intro a hk)) | (refine wx3 ?_; clear hk hS a; intro w b hS a hk) | (refine wx4 ?_; clear hk hS a; intro w hS a hk) | (refine wx5 ?_; clear hk hS a; intro w v hS a hk) | fail) | refine wx0 ?_ | (refine s_end hk ?_; clear hk a; intro a hk) | fail))
    exact done1 hk (h := ⟨rfl, hS.nil⟩)

set_option maxHeartbeats 4000000 in
theorem fold_any (f : FuncId) (hf : callable Tryd.prog f = true) (val : Tree → Int) (P : Tree → Prop) (hP : ∀ t, P t → Fits t ∧ ∀ u ∈ t.kids, P u)
    (hc : ∀ (t : Tree) (h : NdH) (v : Value) (B : Bs) (L : List HP) (w : World), P t → TrR w t h → St B (OwT 3 (t.kids.map val) v :: L) w → Calls Tryd.prog f #[ndV h, v] w (Ret fun r w' => r = .int .i64 (val t) ∧ St B L w')) :
    ∀ (n : Nat) (t : Tree) (h : NdH) (w0 : World), SizeOf.sizeOf t < n → P t → TrR w0 t h → Calls Tryd.prog 13 #[ndV h, .func (.func f) #[] #[]] w0 (Ret fun v w => v = .int .i64 (val t) ∧ St w0 [] w)
  | 0, _, _, _, hn, _, _ => by omega
  | n + 1, t, h, w0, hn, hp, hr => by
    have ih := fold_any f hf val P hP hc n
    obtain ⟨hfits, hkids⟩ := hP t hp
    obtain ⟨k, tag, key, text, cl, al, sl, e, lv, m, d, p, q, kids, a1, m1, a2, m2, a3, m3, a4, m4, H, rfl, rfl, c1, c2, c3, c4, hF⟩ := hr.split
    obtain ⟨l1, l2, l3, l4, l5⟩ := hfits
    have hHk : H.length = kids.length := hF.1
    show Calls Tryd.prog 13 #[.agg #[.int .i64 k, .string tag, .string key, .string text, .slice a1 cl.length m1, .slice a2 al.length m2, .slice a3 sl.length m3, .int .i64 e, .int .i64 lv, .int .i64 m, .int .i64 d, .bool p, .bool q, .slice a4 H.length m4], .func (.func f) #[] #[]] w0 _
    have c4' := c4
    refine enter Tryd.func13 rfl Tryd.ntmps13 rfl (fun a hk => ?_); have hS := St.refl w0
    (repeat' (first | (show wpListIn _ _ _ _ _ (_ :: _) _ _; first | (refine wx1 ?_; clear hk a; intro a hk) | (refine wx2 ?_ ?_ <;> (intro hp; clear hk a; intro a hk)) | (refine wx3 ?_; clear hk hS a; intro w b hS a hk) | (refine wx4 ?_; clear hk hS a; intro w hS a hk) | (refine wx5 ?_; clear hk hS a; intro w v hS a hk) | fail) | refine wx0 ?_ | (refine s_end hk ?_; clear hk a; intro a hk) | fail))
    rename Nat => b1
    replace hS := hS.nilT 3 Int
    replace hk := Kn.kp [1, 2, 5, 9, 10, 11] hk
    refine wp_for H.length (fun i v => [(5, v), (11, .int .i64 (i : Int))]) (fun i v => [OwT 3 ((kids.take i).map val) v, pts b1 [.int .i64 k, .string tag, .string key, .string text, .slice a1 cl.length m1, .slice a2 al.length m2, .slice a3 sl.length m3, .int .i64 e, .int .i64 lv, .int .i64 m, .int .i64 d, .bool p, .bool q, .slice a4 H.length m4] 32]) (fun _ _ => True) (.slice none 0 0) hk (by repeat (first | exact trivial | refine ⟨rfl, ?_⟩)) hS.sb trivial ?_
    clear hk hS a
    rintro i vo a w hi hk hS -
    have hml : ((kids.take i).map val).length ≤ 1000 := by rw [List.length_map, List.length_take]; omega
    by_cases hil : i < H.length
    · obtain ⟨tk, htk⟩ : ∃ t, kids[i]? = some t := ⟨_, List.getElem?_eq_getElem (by omega)⟩
      obtain ⟨hd0, hx⟩ : ∃ x, H[i]? = some x := ⟨_, List.getElem?_eq_getElem hil⟩
      have hTr := hF.2 i tk hd0 htk hx
      have hpk := hkids tk (List.mem_of_getElem? htk)
      have hlt : SizeOf.sizeOf tk < n := by have := kid_lt (k := k) (tag := tag) (key := key) (text := text) (cl := cl) (at_ := al) (st := sl) (o := (e, lv, m, d, p, q)) (List.mem_of_getElem? htk); omega
      have hst : (kids.take (i + 1)).map val = (kids.take i).map val ++ [val tk] := by rw [take_snoc htk, List.map_append, List.map_singleton]
      obtain ⟨k0, tag0, key0, text0, ⟨x1, x2, x3⟩, ⟨y1, y2, y3⟩, ⟨z1, z2, z3⟩, ⟨e0, lv0, m0, d0, p0, q0⟩, ⟨u1, u2, u3⟩⟩ := hd0
      have hv1 := hS.rdT c4
      (repeat' (first | (show wpListIn _ _ _ _ _ (_ :: _) _ _; first | (refine wx1 ?_; clear hk a; intro a hk) | (refine wx2 ?_ ?_ <;> (intro hp; clear hk a; intro a hk)) | (refine wx3 ?_; clear hk hS a; intro w b hS a hk) | (refine wx4 ?_; clear hk hS a; intro w hS a hk) | (refine wx5 ?_; clear hk hS a; intro w v hS a hk) | fail) | refine wx0 ?_ | (refine s_end hk ?_; clear hk a; intro a hk) | fail))
      refine sg hk (g_callO hk (hf := by kernel_rfl) (hc := ih tk (k0, tag0, key0, text0, ⟨x1, x2, x3⟩, ⟨y1, y2, y3⟩, ⟨z1, z2, z3⟩, (e0, lv0, m0, d0, p0, q0), ⟨u1, u2, u3⟩) _ hlt hpk (hS.rdTr hTr)) (h := ?_)); clear hk a; rintro _ w ⟨rfl, hS1⟩ a hk; replace hS := hS.call0 hS1; clear hS1
      (repeat' (first | (show wpListIn _ _ _ _ _ (_ :: _) _ _; first | (refine wx1 ?_; clear hk a; intro a hk) | (refine wx2 ?_ ?_ <;> (intro hp; clear hk a; intro a hk)) | (refine wx3 ?_; clear hk hS a; intro w b hS a hk) | (refine wx4 ?_; clear hk hS a; intro w hS a hk) | (refine wx5 ?_; clear hk hS a; intro w v hS a hk) | fail) | refine wx0 ?_ | (refine s_end hk ?_; clear hk a; intro a hk) | fail))
      rw [← hst] at hS
      exact ⟨hil, _, hk.sd, hS.sb, trivial⟩
    · have hii : i = kids.length := by omega
      subst hii
      rw [List.take_length] at hS
      (repeat' (first | (show wpListIn _ _ _ _ _ (_ :: _) _ _; first | (refine wx1 ?_; clear hk a; intro a hk) | (refine wx2 ?_ ?_ <;> (intro hp; clear hk a; intro a hk)) | (refine wx3 ?_; clear hk hS a; intro w b hS a hk) | (refine wx4 ?_; clear hk hS a; intro w hS a hk) | (refine wx5 ?_; clear hk hS a; intro w v hS a hk) | fail) | refine wx0 ?_ | (refine s_end hk ?_; clear hk a; intro a hk) | fail))
      have hT : TrR w (.mk k tag key text cl al sl (e, lv, m, d, p, q) kids) (k, tag, key, text, ⟨a1, cl.length, m1⟩, ⟨a2, al.length, m2⟩, ⟨a3, sl.length, m3⟩, (e, lv, m, d, p, q), ⟨a4, H.length, m4⟩) := hS.rdTr hr
      refine sg hk (g_callvO (first := []) (cap := []) hk (hf := hf) (hc := hc _ _ _ _ [] _ hp hT (hS.sub (by (repeat (first | exact Sub.nil | exact Sub.refl | refine Sub.cons (by (repeat (first | exact At.here | apply At.there))) ?_))))) (h := ?_)); clear hk hS a; rintro _ w ⟨rfl, hS⟩ a hk
      (repeat' (first | (show wpListIn _ _ _ _ _ (_ :: _) _ _; first | (refine wx1 ?_; clear hk a; intro a hk) | (refine wx2 ?_ ?_ <;> (intro hp; clear hk a; intro a hk)) | (refine wx3 ?_; clear hk hS a; intro w b hS a hk) | (refine wx4 ?_; clear hk hS a; intro w hS a hk) | (refine wx5 ?_; clear hk hS a; intro w v hS a hk) | fail) | refine wx0 ?_ | (refine s_end hk ?_; clear hk a; intro a hk) | fail))
      exact done1 hk (h := ⟨rfl, hS⟩)
end Go.Proofs.YtipdgobplfkipaaDoor
