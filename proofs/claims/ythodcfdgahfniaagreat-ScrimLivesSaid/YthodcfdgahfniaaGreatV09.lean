/- Layer 21: a kid's calls: State. -/
import Derived.Test.YthodcfdgahfniaaGreatV08
set_option linter.all false
namespace Go.Proofs.YthodcfdgahfniaaGreat
open Go.RowKit
set_option maxRecDepth 100000
attribute [local irreducible] Go.Code.wpIn Go.wpListIn Go.Calls Gives Go.Exit.then Go.Exit.inBlock Done ObxE

set_option maxHeartbeats 2000000 in
theorem enter21_any (s : PS) (dur : Int) (once : Bool) (B : Bs) (L : List HP) (w : World) (hS : St B L w) : Calls Tryz.prog 7 #[stV s, .int .i64 dur, .bool once] w (Ret (PhR B L (entrP s dur once))) := by
  obtain ⟨k, m, x, y, d, e⟩ := s
  show Calls Tryz.prog 7 #[.agg #[.int .i64 k, .int .i64 m, .int .i64 x, .int .i64 y, .int .i64 d, .int .i64 e], .int .i64 dur, .bool once] w _
  by_cases h1 : k = 1
  · subst h1
    rw [show entrP ⟨1, m, x, y, d, e⟩ dur once = startP (tellP (outP ⟨1, m, x, y, d, e⟩) [1, 2]) 2 3 dur once from rfl]
    refine enter Tryz.func7 rfl Tryz.ntmps7 rfl (fun a hk => ?_)
    refine wpIn_seq ?_; refine wpIn_region_lit ?_
    refine st_box hk hS ?_; clear hk hS a; intro w b1 hS a hk
    refine st_alloc hk hS ?_; clear hk hS a; intro w b2 hS a hk
    (repeat' (first | (show wpListIn _ _ _ _ _ (_ :: _) _ _; first | (refine wx1 ?_; clear hk a; intro a hk) | (refine wx2 ?_ ?_ <;> (intro hp; clear hk a; intro a hk)) | (refine wx3 ?_; clear hk hS a; intro w b hS a hk) | (refine wx4 ?_; clear hk hS a; intro w hS a hk) | (refine wx5 ?_; clear hk hS a; intro w v hS a hk) | fail) | refine wx0 ?_ | (refine s_end hk ?_; clear hk a; intro a hk) | fail))
    refine sg hk (g_callO hk (hf := by kernel_rfl) (hc := pout_any ⟨1, m, x, y, d, e⟩ _) (h := ?_)); clear hk a; rintro _ w ⟨rfl, hS1⟩ a hk; replace hS := hS.call0 hS1; clear hS1
    refine sg hk (g_bsT (xs := [(1 : Int), 2]) (m := 1) hk hS ?_ (hT := eT rfl) (hE := zT rfl) (hz := oT rfl)); clear hk hS a; intro w vt hS a hk
    refine sg hk (g_callO hk (hf := by kernel_rfl) (hc := tell_any (outP ⟨1, m, x, y, d, e⟩) noH [1, 2] vt _ _ _ (Nat.zero_le _) (by decide) (hS.nilT 3 Int)) (h := ?_)); clear hk hS a; intro vr w hS a hk
    obtain ⟨⟨pa', pn', pc'⟩, rfl, hS1⟩ := hS
    have hS := hS1
    clear hS1
    (repeat' (first | (show wpListIn _ _ _ _ _ (_ :: _) _ _; first | (refine wx1 ?_; clear hk a; intro a hk) | (refine wx2 ?_ ?_ <;> (intro hp; clear hk a; intro a hk)) | (refine wx3 ?_; clear hk hS a; intro w b hS a hk) | (refine wx4 ?_; clear hk hS a; intro w hS a hk) | (refine wx5 ?_; clear hk hS a; intro w v hS a hk) | fail) | refine wx0 ?_ | (refine s_end hk ?_; clear hk a; intro a hk) | fail))
    refine sg hk (g_callO hk (hf := by kernel_rfl) (hc := start_any (tellP (outP ⟨1, m, x, y, d, e⟩) [1, 2]) ⟨pa', pn', pc'⟩ 2 3 dur once _) (h := ?_)); clear hk a; rintro _ w ⟨rfl, hS1⟩ a hk; replace hS := hS.call0 hS1; clear hS1
    have hhk : (startP (tellP (outP ⟨1, m, x, y, d, e⟩) [1, 2]) 2 3 dur once).hk = (tellP (outP ⟨1, m, x, y, d, e⟩) [1, 2]).hk := start_hk _ _ _ _ _
    rw [← hhk] at hS
    generalize startP (tellP (outP ⟨1, m, x, y, d, e⟩) [1, 2]) 2 3 dur once = u at *
    obtain ⟨⟨k_u, m_u, x_u, y_u, d_u, e_u⟩, l_u, j_u, mj_u, en_u, me_u, go_u⟩ := u
    simp only [ouV, Hd.v] at hk
    simp only at hS
    (repeat' (first | (show wpListIn _ _ _ _ _ (_ :: _) _ _; first | (refine wx1 ?_; clear hk a; intro a hk) | (refine wx2 ?_ ?_ <;> (intro hp; clear hk a; intro a hk)) | (refine wx3 ?_; clear hk hS a; intro w b hS a hk) | (refine wx4 ?_; clear hk hS a; intro w hS a hk) | (refine wx5 ?_; clear hk hS a; intro w v hS a hk) | fail) | refine wx0 ?_ | (refine s_end hk ?_; clear hk a; intro a hk) | fail))
    refine done1R hk rfl (.str hS (hT := aT rfl) (hs := zT rfl)) (h := ?_)
    exact ⟨⟨pa', pn', pc'⟩, rfl, hS.sub (.cons (by repeat (first | exact At.here | apply At.there)) (by repeat (first | exact Sub.refl | apply Sub.under)))⟩
  · rw [show entrP ⟨k, m, x, y, d, e⟩ dur once = outP ⟨k, m, x, y, d, e⟩ from if_neg h1]
    refine enter Tryz.func7 rfl Tryz.ntmps7 rfl (fun a hk => ?_)
    refine wpIn_seq ?_; refine wpIn_region_lit ?_
    refine st_box hk hS ?_; clear hk hS a; intro w b1 hS a hk
    refine st_alloc hk hS ?_; clear hk hS a; intro w b2 hS a hk
    (repeat' (first | (show wpListIn _ _ _ _ _ (_ :: _) _ _; first | (refine wx1 ?_; clear hk a; intro a hk) | (refine wx2 ?_ ?_ <;> (intro hp; clear hk a; intro a hk)) | (refine wx3 ?_; clear hk hS a; intro w b hS a hk) | (refine wx4 ?_; clear hk hS a; intro w hS a hk) | (refine wx5 ?_; clear hk hS a; intro w v hS a hk) | fail) | refine wx0 ?_ | (refine s_end hk ?_; clear hk a; intro a hk) | fail))
    refine sg hk (g_callO hk (hf := by kernel_rfl) (hc := pout_any ⟨k, m, x, y, d, e⟩ _) (h := ?_)); clear hk a; rintro _ w ⟨rfl, hS1⟩ a hk; replace hS := hS.call0 hS1; clear hS1
    (repeat' (first | (show wpListIn _ _ _ _ _ (_ :: _) _ _; first | (refine wx1 ?_; clear hk a; intro a hk) | (refine wx2 ?_ ?_ <;> (intro hp; clear hk a; intro a hk)) | (refine wx3 ?_; clear hk hS a; intro w b hS a hk) | (refine wx4 ?_; clear hk hS a; intro w hS a hk) | (refine wx5 ?_; clear hk hS a; intro w v hS a hk) | fail) | refine wx0 ?_ | (refine s_end hk ?_; clear hk a; intro a hk) | fail))
    refine done1R hk rfl (.str hS (hT := aT rfl) (hs := zT rfl)) (h := ?_)
    exact ⟨noH, rfl, (hS.nilT 3 Int).sub (.cons .here (by repeat (first | exact Sub.refl | apply Sub.under)))⟩
set_option maxHeartbeats 2000000 in
theorem broken21_any (s : PS) (B : Bs) (L : List HP) (w : World) (hS : St B L w) : Calls Tryz.prog 58 #[stV s] w (Ret (PhR B L (brokenP s))) := by
  obtain ⟨k, m, x, y, d, e⟩ := s
  show Calls Tryz.prog 58 #[.agg #[.int .i64 k, .int .i64 m, .int .i64 x, .int .i64 y, .int .i64 d, .int .i64 e]] w _
  by_cases h1 : k = 2 ∨ k = 3
  · have he : entL k = true := decide_eq_true h1
    rw [show brokenP ⟨k, m, x, y, d, e⟩ = overP (tellP (outP ⟨k, m, x, y, d, e⟩) [4]) 0 from if_pos h1]
    refine enter Tryz.func58 rfl Tryz.ntmps58 rfl (fun a hk => ?_)
    refine wpIn_seq ?_; refine wpIn_region_lit ?_
    refine st_box hk hS ?_; clear hk hS a; intro w b1 hS a hk
    refine st_alloc hk hS ?_; clear hk hS a; intro w b2 hS a hk
    (repeat' (first | (show wpListIn _ _ _ _ _ (_ :: _) _ _; first | (refine wx1 ?_; clear hk a; intro a hk) | (refine wx2 ?_ ?_ <;> (intro hp; clear hk a; intro a hk)) | (refine wx3 ?_; clear hk hS a; intro w b hS a hk) | (refine wx4 ?_; clear hk hS a; intro w hS a hk) | (refine wx5 ?_; clear hk hS a; intro w v hS a hk) | fail) | refine wx0 ?_ | (refine s_end hk ?_; clear hk a; intro a hk) | fail))
    refine sg hk (g_callO hk (hf := by kernel_rfl) (hc := entering_any k m x y _) (h := ?_)); clear hk a; rintro _ w ⟨rfl, hS1⟩ a hk; replace hS := hS.call0 hS1; clear hS1
    rw [he] at hk
    (repeat' (first | (show wpListIn _ _ _ _ _ (_ :: _) _ _; first | (refine wx1 ?_; clear hk a; intro a hk) | (refine wx2 ?_ ?_ <;> (intro hp; clear hk a; intro a hk)) | (refine wx3 ?_; clear hk hS a; intro w b hS a hk) | (refine wx4 ?_; clear hk hS a; intro w hS a hk) | (refine wx5 ?_; clear hk hS a; intro w v hS a hk) | fail) | refine wx0 ?_ | (refine s_end hk ?_; clear hk a; intro a hk) | fail))
    refine sg hk (g_callO hk (hf := by kernel_rfl) (hc := pout_any ⟨k, m, x, y, d, e⟩ _) (h := ?_)); clear hk a; rintro _ w ⟨rfl, hS1⟩ a hk; replace hS := hS.call0 hS1; clear hS1
    (repeat' (first | (show wpListIn _ _ _ _ _ (_ :: _) _ _; first | (refine wx1 ?_; clear hk a; intro a hk) | (refine wx2 ?_ ?_ <;> (intro hp; clear hk a; intro a hk)) | (refine wx3 ?_; clear hk hS a; intro w b hS a hk) | (refine wx4 ?_; clear hk hS a; intro w hS a hk) | (refine wx5 ?_; clear hk hS a; intro w v hS a hk) | fail) | refine wx0 ?_ | (refine s_end hk ?_; clear hk a; intro a hk) | fail))
    rename Value => vt
    refine sg hk (g_callO hk (hf := by kernel_rfl) (hc := tell_any (outP ⟨k, m, x, y, d, e⟩) noH [4] vt _ _ _ (Nat.zero_le _) (by decide) (hS.nilT 3 Int)) (h := ?_)); clear hk hS a; intro vr w hS a hk
    obtain ⟨⟨pa', pn', pc'⟩, rfl, hS1⟩ := hS
    have hS := hS1
    clear hS1
    (repeat' (first | (show wpListIn _ _ _ _ _ (_ :: _) _ _; first | (refine wx1 ?_; clear hk a; intro a hk) | (refine wx2 ?_ ?_ <;> (intro hp; clear hk a; intro a hk)) | (refine wx3 ?_; clear hk hS a; intro w b hS a hk) | (refine wx4 ?_; clear hk hS a; intro w hS a hk) | (refine wx5 ?_; clear hk hS a; intro w v hS a hk) | fail) | refine wx0 ?_ | (refine s_end hk ?_; clear hk a; intro a hk) | fail))
    refine sg hk (g_callO hk (hf := by kernel_rfl) (hc := over_any (tellP (outP ⟨k, m, x, y, d, e⟩) [4]) ⟨pa', pn', pc'⟩ 0 _) (h := ?_)); clear hk a; rintro _ w ⟨rfl, hS1⟩ a hk; replace hS := hS.call0 hS1; clear hS1
    (repeat' (first | (show wpListIn _ _ _ _ _ (_ :: _) _ _; first | (refine wx1 ?_; clear hk a; intro a hk) | (refine wx2 ?_ ?_ <;> (intro hp; clear hk a; intro a hk)) | (refine wx3 ?_; clear hk hS a; intro w b hS a hk) | (refine wx4 ?_; clear hk hS a; intro w hS a hk) | (refine wx5 ?_; clear hk hS a; intro w v hS a hk) | fail) | refine wx0 ?_ | (refine s_end hk ?_; clear hk a; intro a hk) | fail))
    refine done1R hk rfl (.str hS (hT := aT rfl) (hs := zT rfl)) (h := ?_)
    exact ⟨⟨pa', pn', pc'⟩, rfl, hS.sub (.cons (by repeat (first | exact At.here | apply At.there)) (by repeat (first | exact Sub.refl | apply Sub.under)))⟩
  · have he : entL k = false := decide_eq_false h1
    rw [show brokenP ⟨k, m, x, y, d, e⟩ = outP ⟨k, m, x, y, d, e⟩ from if_neg h1]
    refine enter Tryz.func58 rfl Tryz.ntmps58 rfl (fun a hk => ?_)
    refine wpIn_seq ?_; refine wpIn_region_lit ?_
    refine st_box hk hS ?_; clear hk hS a; intro w b1 hS a hk
    refine st_alloc hk hS ?_; clear hk hS a; intro w b2 hS a hk
    (repeat' (first | (show wpListIn _ _ _ _ _ (_ :: _) _ _; first | (refine wx1 ?_; clear hk a; intro a hk) | (refine wx2 ?_ ?_ <;> (intro hp; clear hk a; intro a hk)) | (refine wx3 ?_; clear hk hS a; intro w b hS a hk) | (refine wx4 ?_; clear hk hS a; intro w hS a hk) | (refine wx5 ?_; clear hk hS a; intro w v hS a hk) | fail) | refine wx0 ?_ | (refine s_end hk ?_; clear hk a; intro a hk) | fail))
    refine sg hk (g_callO hk (hf := by kernel_rfl) (hc := entering_any k m x y _) (h := ?_)); clear hk a; rintro _ w ⟨rfl, hS1⟩ a hk; replace hS := hS.call0 hS1; clear hS1
    rw [he] at hk
    (repeat' (first | (show wpListIn _ _ _ _ _ (_ :: _) _ _; first | (refine wx1 ?_; clear hk a; intro a hk) | (refine wx2 ?_ ?_ <;> (intro hp; clear hk a; intro a hk)) | (refine wx3 ?_; clear hk hS a; intro w b hS a hk) | (refine wx4 ?_; clear hk hS a; intro w hS a hk) | (refine wx5 ?_; clear hk hS a; intro w v hS a hk) | fail) | refine wx0 ?_ | (refine s_end hk ?_; clear hk a; intro a hk) | fail))
    refine sg hk (g_callO hk (hf := by kernel_rfl) (hc := pout_any ⟨k, m, x, y, d, e⟩ _) (h := ?_)); clear hk a; rintro _ w ⟨rfl, hS1⟩ a hk; replace hS := hS.call0 hS1; clear hS1
    (repeat' (first | (show wpListIn _ _ _ _ _ (_ :: _) _ _; first | (refine wx1 ?_; clear hk a; intro a hk) | (refine wx2 ?_ ?_ <;> (intro hp; clear hk a; intro a hk)) | (refine wx3 ?_; clear hk hS a; intro w b hS a hk) | (refine wx4 ?_; clear hk hS a; intro w hS a hk) | (refine wx5 ?_; clear hk hS a; intro w v hS a hk) | fail) | refine wx0 ?_ | (refine s_end hk ?_; clear hk a; intro a hk) | fail))
    refine done1R hk rfl (.str hS (hT := aT rfl) (hs := zT rfl)) (h := ?_)
    exact ⟨noH, rfl, (hS.nilT 3 Int).sub (.cons .here (by repeat (first | exact Sub.refl | apply Sub.under)))⟩
set_option maxHeartbeats 2000000 in
theorem leave21_any (s : PS) (dur : Int) (once : Bool) (B : Bs) (L : List HP) (w : World) (hS : St B L w) : Calls Tryz.prog 31 #[stV s, .int .i64 dur, .bool once] w (Ret (PhR B L (leaveP s dur once))) := by
  obtain ⟨k, m, x, y, d, e⟩ := s
  show Calls Tryz.prog 31 #[.agg #[.int .i64 k, .int .i64 m, .int .i64 x, .int .i64 y, .int .i64 d, .int .i64 e], .int .i64 dur, .bool once] w _
  have hb1 := broken_hk ⟨k, m, x, y, d, e⟩
  by_cases h1 : (brokenP ⟨k, m, x, y, d, e⟩).s.k = 0 ∨ (brokenP ⟨k, m, x, y, d, e⟩).s.k = 4
  · rw [show leaveP ⟨k, m, x, y, d, e⟩ dur once = startP (tellP (brokenP ⟨k, m, x, y, d, e⟩) [5, 6]) 5 6 dur once from if_pos h1]
    generalize hbr : brokenP ⟨k, m, x, y, d, e⟩ = o at *
    obtain ⟨⟨k1, m1, x1, y1, d1, e1⟩, l1, j1, mj1, en1, me1, go1⟩ := o
    simp only at hb1 h1
    rcases h1 with rfl | rfl
    · refine enter Tryz.func31 rfl Tryz.ntmps31 rfl (fun a hk => ?_)
      refine wpIn_seq ?_; refine wpIn_region_lit ?_
      refine st_box hk hS ?_; clear hk hS a; intro w b1 hS a hk
      refine st_alloc hk hS ?_; clear hk hS a; intro w b2 hS a hk
      (repeat' (first | (show wpListIn _ _ _ _ _ (_ :: _) _ _; first | (refine wx1 ?_; clear hk a; intro a hk) | (refine wx2 ?_ ?_ <;> (intro hp; clear hk a; intro a hk)) | (refine wx3 ?_; clear hk hS a; intro w b hS a hk) | (refine wx4 ?_; clear hk hS a; intro w hS a hk) | (refine wx5 ?_; clear hk hS a; intro w v hS a hk) | fail) | refine wx0 ?_ | (refine s_end hk ?_; clear hk a; intro a hk) | fail))
      have hbc := broken21_any ⟨k, m, x, y, d, e⟩ B _ _ hS
      rw [hbr] at hbc
      refine sg hk (g_callO hk (hf := by kernel_rfl) (hc := hbc) (h := ?_)); clear hk hS a; intro vr w hS a hk
      clear hbc
      obtain ⟨⟨pa, pn, pc⟩, rfl, hS1⟩ := hS
      have hS := hS1
      clear hS1
      simp only [ouV, Hd.v] at hk
      simp only at hb1 hS
      (repeat' (first | (show wpListIn _ _ _ _ _ (_ :: _) _ _; first | (refine wx1 ?_; clear hk a; intro a hk) | (refine wx2 ?_ ?_ <;> (intro hp; clear hk a; intro a hk)) | (refine wx3 ?_; clear hk hS a; intro w b hS a hk) | (refine wx4 ?_; clear hk hS a; intro w hS a hk) | (refine wx5 ?_; clear hk hS a; intro w v hS a hk) | fail) | refine wx0 ?_ | (refine s_end hk ?_; clear hk a; intro a hk) | fail))
      refine sg hk (g_bsT (xs := [(5 : Int), 6]) (m := 1) hk hS ?_ (hT := eT rfl) (hE := zT rfl) (hz := oT rfl)); clear hk hS a; intro w vt hS a hk
      refine sg hk (g_callO hk (hf := by kernel_rfl) (hc := tell_any ⟨⟨0, m1, x1, y1, d1, e1⟩, l1, j1, mj1, en1, me1, go1⟩ ⟨pa, pn, pc⟩ [5, 6] vt _ _ _ (by show l1.length ≤ 100; omega) (by decide) (hS.sub (.cons (by repeat (first | exact At.here | apply At.there)) (.cons (by repeat (first | exact At.here | apply At.there)) .refl)))) (h := ?_)); clear hk hS a; intro vr w hS a hk
      obtain ⟨⟨pa', pn', pc'⟩, rfl, hS1⟩ := hS
      have hS := hS1
      clear hS1
      (repeat' (first | (show wpListIn _ _ _ _ _ (_ :: _) _ _; first | (refine wx1 ?_; clear hk a; intro a hk) | (refine wx2 ?_ ?_ <;> (intro hp; clear hk a; intro a hk)) | (refine wx3 ?_; clear hk hS a; intro w b hS a hk) | (refine wx4 ?_; clear hk hS a; intro w hS a hk) | (refine wx5 ?_; clear hk hS a; intro w v hS a hk) | fail) | refine wx0 ?_ | (refine s_end hk ?_; clear hk a; intro a hk) | fail))
      refine sg hk (g_callO hk (hf := by kernel_rfl) (hc := start_any (tellP ⟨⟨0, m1, x1, y1, d1, e1⟩, l1, j1, mj1, en1, me1, go1⟩ [5, 6]) ⟨pa', pn', pc'⟩ 5 6 dur once _) (h := ?_)); clear hk a; rintro _ w ⟨rfl, hS1⟩ a hk; replace hS := hS.call0 hS1; clear hS1
      have hhk : (startP (tellP ⟨⟨0, m1, x1, y1, d1, e1⟩, l1, j1, mj1, en1, me1, go1⟩ [5, 6]) 5 6 dur once).hk = (tellP ⟨⟨0, m1, x1, y1, d1, e1⟩, l1, j1, mj1, en1, me1, go1⟩ [5, 6]).hk := start_hk _ _ _ _ _
      rw [← hhk] at hS
      generalize startP (tellP ⟨⟨0, m1, x1, y1, d1, e1⟩, l1, j1, mj1, en1, me1, go1⟩ [5, 6]) 5 6 dur once = u at *
      obtain ⟨⟨k_u, m_u, x_u, y_u, d_u, e_u⟩, l_u, j_u, mj_u, en_u, me_u, go_u⟩ := u
      simp only [ouV, Hd.v] at hk
      simp only at hS
      (repeat' (first | (show wpListIn _ _ _ _ _ (_ :: _) _ _; first | (refine wx1 ?_; clear hk a; intro a hk) | (refine wx2 ?_ ?_ <;> (intro hp; clear hk a; intro a hk)) | (refine wx3 ?_; clear hk hS a; intro w b hS a hk) | (refine wx4 ?_; clear hk hS a; intro w hS a hk) | (refine wx5 ?_; clear hk hS a; intro w v hS a hk) | fail) | refine wx0 ?_ | (refine s_end hk ?_; clear hk a; intro a hk) | fail))
      refine done1R hk rfl (.str hS (hT := aT rfl) (hs := zT rfl)) (h := ?_)
      exact ⟨⟨pa', pn', pc'⟩, rfl, hS.sub (.cons (by repeat (first | exact At.here | apply At.there)) (by repeat (first | exact Sub.refl | apply Sub.under)))⟩
    · refine enter Tryz.func31 rfl Tryz.ntmps31 rfl (fun a hk => ?_)
      refine wpIn_seq ?_; refine wpIn_region_lit ?_
      refine st_box hk hS ?_; clear hk hS a; intro w b1 hS a hk
      refine st_alloc hk hS ?_; clear hk hS a; intro w b2 hS a hk
      (repeat' (first | (show wpListIn _ _ _ _ _ (_ :: _) _ _; first | (refine wx1 ?_; clear hk a; intro a hk) | (refine wx2 ?_ ?_ <;> (intro hp; clear hk a; intro a hk)) | (refine wx3 ?_; clear hk hS a; intro w b hS a hk) | (refine wx4 ?_; clear hk hS a; intro w hS a hk) | (refine wx5 ?_; clear hk hS a; intro w v hS a hk) | fail) | refine wx0 ?_ | (refine s_end hk ?_; clear hk a; intro a hk) | fail))
      have hbc := broken21_any ⟨k, m, x, y, d, e⟩ B _ _ hS
      rw [hbr] at hbc
      refine sg hk (g_callO hk (hf := by kernel_rfl) (hc := hbc) (h := ?_)); clear hk hS a; intro vr w hS a hk
      clear hbc
      obtain ⟨⟨pa, pn, pc⟩, rfl, hS1⟩ := hS
      have hS := hS1
      clear hS1
      simp only [ouV, Hd.v] at hk
      simp only at hb1 hS
      (repeat' (first | (show wpListIn _ _ _ _ _ (_ :: _) _ _; first | (refine wx1 ?_; clear hk a; intro a hk) | (refine wx2 ?_ ?_ <;> (intro hp; clear hk a; intro a hk)) | (refine wx3 ?_; clear hk hS a; intro w b hS a hk) | (refine wx4 ?_; clear hk hS a; intro w hS a hk) | (refine wx5 ?_; clear hk hS a; intro w v hS a hk) | fail) | refine wx0 ?_ | (refine s_end hk ?_; clear hk a; intro a hk) | fail))
      refine sg hk (g_bsT (xs := [(5 : Int), 6]) (m := 1) hk hS ?_ (hT := eT rfl) (hE := zT rfl) (hz := oT rfl)); clear hk hS a; intro w vt hS a hk
      refine sg hk (g_callO hk (hf := by kernel_rfl) (hc := tell_any ⟨⟨4, m1, x1, y1, d1, e1⟩, l1, j1, mj1, en1, me1, go1⟩ ⟨pa, pn, pc⟩ [5, 6] vt _ _ _ (by show l1.length ≤ 100; omega) (by decide) (hS.sub (.cons (by repeat (first | exact At.here | apply At.there)) (.cons (by repeat (first | exact At.here | apply At.there)) .refl)))) (h := ?_)); clear hk hS a; intro vr w hS a hk
      obtain ⟨⟨pa', pn', pc'⟩, rfl, hS1⟩ := hS
      have hS := hS1
      clear hS1
      (repeat' (first | (show wpListIn _ _ _ _ _ (_ :: _) _ _; first | (refine wx1 ?_; clear hk a; intro a hk) | (refine wx2 ?_ ?_ <;> (intro hp; clear hk a; intro a hk)) | (refine wx3 ?_; clear hk hS a; intro w b hS a hk) | (refine wx4 ?_; clear hk hS a; intro w hS a hk) | (refine wx5 ?_; clear hk hS a; intro w v hS a hk) | fail) | refine wx0 ?_ | (refine s_end hk ?_; clear hk a; intro a hk) | fail))
      refine sg hk (g_callO hk (hf := by kernel_rfl) (hc := start_any (tellP ⟨⟨4, m1, x1, y1, d1, e1⟩, l1, j1, mj1, en1, me1, go1⟩ [5, 6]) ⟨pa', pn', pc'⟩ 5 6 dur once _) (h := ?_)); clear hk a; rintro _ w ⟨rfl, hS1⟩ a hk; replace hS := hS.call0 hS1; clear hS1
      have hhk : (startP (tellP ⟨⟨4, m1, x1, y1, d1, e1⟩, l1, j1, mj1, en1, me1, go1⟩ [5, 6]) 5 6 dur once).hk = (tellP ⟨⟨4, m1, x1, y1, d1, e1⟩, l1, j1, mj1, en1, me1, go1⟩ [5, 6]).hk := start_hk _ _ _ _ _
      rw [← hhk] at hS
      generalize startP (tellP ⟨⟨4, m1, x1, y1, d1, e1⟩, l1, j1, mj1, en1, me1, go1⟩ [5, 6]) 5 6 dur once = u at *
      obtain ⟨⟨k_u, m_u, x_u, y_u, d_u, e_u⟩, l_u, j_u, mj_u, en_u, me_u, go_u⟩ := u
      simp only [ouV, Hd.v] at hk
      simp only at hS
      (repeat' (first | (show wpListIn _ _ _ _ _ (_ :: _) _ _; first | (refine wx1 ?_; clear hk a; intro a hk) | (refine wx2 ?_ ?_ <;> (intro hp; clear hk a; intro a hk)) | (refine wx3 ?_; clear hk hS a; intro w b hS a hk) | (refine wx4 ?_; clear hk hS a; intro w hS a hk) | (refine wx5 ?_; clear hk hS a; intro w v hS a hk) | fail) | refine wx0 ?_ | (refine s_end hk ?_; clear hk a; intro a hk) | fail))
      refine done1R hk rfl (.str hS (hT := aT rfl) (hs := zT rfl)) (h := ?_)
      exact ⟨⟨pa', pn', pc'⟩, rfl, hS.sub (.cons (by repeat (first | exact At.here | apply At.there)) (by repeat (first | exact Sub.refl | apply Sub.under)))⟩
  · rw [show leaveP ⟨k, m, x, y, d, e⟩ dur once = outP ⟨k, m, x, y, d, e⟩ from if_neg h1]
    generalize hbr : brokenP ⟨k, m, x, y, d, e⟩ = o at *
    obtain ⟨⟨k1, m1, x1, y1, d1, e1⟩, l1, j1, mj1, en1, me1, go1⟩ := o
    simp only at hb1 h1
    refine enter Tryz.func31 rfl Tryz.ntmps31 rfl (fun a hk => ?_)
    refine wpIn_seq ?_; refine wpIn_region_lit ?_
    refine st_box hk hS ?_; clear hk hS a; intro w b1 hS a hk
    refine st_alloc hk hS ?_; clear hk hS a; intro w b2 hS a hk
    (repeat' (first | (show wpListIn _ _ _ _ _ (_ :: _) _ _; first | (refine wx1 ?_; clear hk a; intro a hk) | (refine wx2 ?_ ?_ <;> (intro hp; clear hk a; intro a hk)) | (refine wx3 ?_; clear hk hS a; intro w b hS a hk) | (refine wx4 ?_; clear hk hS a; intro w hS a hk) | (refine wx5 ?_; clear hk hS a; intro w v hS a hk) | fail) | refine wx0 ?_ | (refine s_end hk ?_; clear hk a; intro a hk) | fail))
    have hbc := broken21_any ⟨k, m, x, y, d, e⟩ B _ _ hS
    rw [hbr] at hbc
    refine sg hk (g_callO hk (hf := by kernel_rfl) (hc := hbc) (h := ?_)); clear hk hS a; intro vr w hS a hk
    clear hbc
    obtain ⟨⟨pa, pn, pc⟩, rfl, hS1⟩ := hS
    have hS := hS1
    clear hS1
    simp only [ouV, Hd.v] at hk
    simp only at hb1 hS
    (repeat' (first | (show wpListIn _ _ _ _ _ (_ :: _) _ _; first | (refine wx1 ?_; clear hk a; intro a hk) | (refine wx2 ?_ ?_ <;> (intro hp; clear hk a; intro a hk)) | (refine wx3 ?_; clear hk hS a; intro w b hS a hk) | (refine wx4 ?_; clear hk hS a; intro w hS a hk) | (refine wx5 ?_; clear hk hS a; intro w v hS a hk) | fail) | refine wx0 ?_ | (refine s_end hk ?_; clear hk a; intro a hk) | fail))
    all_goals try (exfalso; omega)
    refine sg hk (g_callO hk (hf := by kernel_rfl) (hc := pout_any ⟨k, m, x, y, d, e⟩ _) (h := ?_)); clear hk a; rintro _ w ⟨rfl, hS1⟩ a hk; replace hS := hS.call0 hS1; clear hS1
    (repeat' (first | (show wpListIn _ _ _ _ _ (_ :: _) _ _; first | (refine wx1 ?_; clear hk a; intro a hk) | (refine wx2 ?_ ?_ <;> (intro hp; clear hk a; intro a hk)) | (refine wx3 ?_; clear hk hS a; intro w b hS a hk) | (refine wx4 ?_; clear hk hS a; intro w hS a hk) | (refine wx5 ?_; clear hk hS a; intro w v hS a hk) | fail) | refine wx0 ?_ | (refine s_end hk ?_; clear hk a; intro a hk) | fail))
    refine done1R hk rfl (.str hS (hT := aT rfl) (hs := zT rfl)) (h := ?_)
    exact ⟨noH, rfl, (hS.nilT 3 Int).sub (.cons .here (by repeat (first | exact Sub.refl | apply Sub.under)))⟩
set_option maxHeartbeats 2000000 in
theorem hold21_any (s : PS) (B : Bs) (L : List HP) (w : World) (hS : St B L w) : Calls Tryz.prog 32 #[stV s] w (Ret (PhR B L (holdP s))) := by
  obtain ⟨k, m, x, y, d, e⟩ := s
  show Calls Tryz.prog 32 #[.agg #[.int .i64 k, .int .i64 m, .int .i64 x, .int .i64 y, .int .i64 d, .int .i64 e]] w _
  have hb1 := broken_hk ⟨k, m, x, y, d, e⟩
  by_cases h1 : (brokenP ⟨k, m, x, y, d, e⟩).s.k = 0
  · rw [show holdP ⟨k, m, x, y, d, e⟩ = toP (unmvP (brokenP ⟨k, m, x, y, d, e⟩)) 4 0 from if_pos h1]
    generalize hbr : brokenP ⟨k, m, x, y, d, e⟩ = o at *
    obtain ⟨⟨k1, m1, x1, y1, d1, e1⟩, l1, j1, mj1, en1, me1, go1⟩ := o
    simp only at hb1 h1
    subst h1
    refine enter Tryz.func32 rfl Tryz.ntmps32 rfl (fun a hk => ?_)
    refine wpIn_seq ?_; refine wpIn_region_lit ?_
    refine st_box hk hS ?_; clear hk hS a; intro w b1 hS a hk
    refine st_alloc hk hS ?_; clear hk hS a; intro w b2 hS a hk
    (repeat' (first | (show wpListIn _ _ _ _ _ (_ :: _) _ _; first | (refine wx1 ?_; clear hk a; intro a hk) | (refine wx2 ?_ ?_ <;> (intro hp; clear hk a; intro a hk)) | (refine wx3 ?_; clear hk hS a; intro w b hS a hk) | (refine wx4 ?_; clear hk hS a; intro w hS a hk) | (refine wx5 ?_; clear hk hS a; intro w v hS a hk) | fail) | refine wx0 ?_ | (refine s_end hk ?_; clear hk a; intro a hk) | fail))
    have hbc := broken21_any ⟨k, m, x, y, d, e⟩ B _ _ hS
    rw [hbr] at hbc
    refine sg hk (g_callO hk (hf := by kernel_rfl) (hc := hbc) (h := ?_)); clear hk hS a; intro vr w hS a hk
    clear hbc
    obtain ⟨⟨pa, pn, pc⟩, rfl, hS1⟩ := hS
    have hS := hS1
    clear hS1
    simp only [ouV, Hd.v] at hk
    simp only at hb1 hS
    (repeat' (first | (show wpListIn _ _ _ _ _ (_ :: _) _ _; first | (refine wx1 ?_; clear hk a; intro a hk) | (refine wx2 ?_ ?_ <;> (intro hp; clear hk a; intro a hk)) | (refine wx3 ?_; clear hk hS a; intro w b hS a hk) | (refine wx4 ?_; clear hk hS a; intro w hS a hk) | (refine wx5 ?_; clear hk hS a; intro w v hS a hk) | fail) | refine wx0 ?_ | (refine s_end hk ?_; clear hk a; intro a hk) | fail))
    refine sg hk (g_callO hk (hf := by kernel_rfl) (hc := unmove_any ⟨⟨0, m1, x1, y1, d1, e1⟩, l1, j1, mj1, en1, me1, go1⟩ ⟨pa, pn, pc⟩ _) (h := ?_)); clear hk a; rintro _ w ⟨rfl, hS1⟩ a hk; replace hS := hS.call0 hS1; clear hS1
    have hhk : (unmvP ⟨⟨0, m1, x1, y1, d1, e1⟩, l1, j1, mj1, en1, me1, go1⟩).hk = l1 := unmv_hk _
    rw [← hhk] at hS
    generalize unmvP ⟨⟨0, m1, x1, y1, d1, e1⟩, l1, j1, mj1, en1, me1, go1⟩ = u at *
    obtain ⟨⟨k_u, m_u, x_u, y_u, d_u, e_u⟩, l_u, j_u, mj_u, en_u, me_u, go_u⟩ := u
    simp only [ouV, Hd.v] at hk
    simp only at hS
    (repeat' (first | (show wpListIn _ _ _ _ _ (_ :: _) _ _; first | (refine wx1 ?_; clear hk a; intro a hk) | (refine wx2 ?_ ?_ <;> (intro hp; clear hk a; intro a hk)) | (refine wx3 ?_; clear hk hS a; intro w b hS a hk) | (refine wx4 ?_; clear hk hS a; intro w hS a hk) | (refine wx5 ?_; clear hk hS a; intro w v hS a hk) | fail) | refine wx0 ?_ | (refine s_end hk ?_; clear hk a; intro a hk) | fail))
    refine sg hk (g_callO hk (hf := by kernel_rfl) (hc := to_any ⟨⟨k_u, m_u, x_u, y_u, d_u, e_u⟩, l_u, j_u, mj_u, en_u, me_u, go_u⟩ ⟨pa, pn, pc⟩ 4 0 _) (h := ?_)); clear hk a; rintro _ w ⟨rfl, hS1⟩ a hk; replace hS := hS.call0 hS1; clear hS1
    (repeat' (first | (show wpListIn _ _ _ _ _ (_ :: _) _ _; first | (refine wx1 ?_; clear hk a; intro a hk) | (refine wx2 ?_ ?_ <;> (intro hp; clear hk a; intro a hk)) | (refine wx3 ?_; clear hk hS a; intro w b hS a hk) | (refine wx4 ?_; clear hk hS a; intro w hS a hk) | (refine wx5 ?_; clear hk hS a; intro w v hS a hk) | fail) | refine wx0 ?_ | (refine s_end hk ?_; clear hk a; intro a hk) | fail))
    refine done1R hk rfl (.str hS (hT := aT rfl) (hs := zT rfl)) (h := ?_)
    exact ⟨⟨pa, pn, pc⟩, rfl, hS.sub (.cons (by repeat (first | exact At.here | apply At.there)) (by repeat (first | exact Sub.refl | apply Sub.under)))⟩
  · rw [show holdP ⟨k, m, x, y, d, e⟩ = outP ⟨k, m, x, y, d, e⟩ from if_neg h1]
    generalize hbr : brokenP ⟨k, m, x, y, d, e⟩ = o at *
    obtain ⟨⟨k1, m1, x1, y1, d1, e1⟩, l1, j1, mj1, en1, me1, go1⟩ := o
    simp only at hb1 h1
    refine enter Tryz.func32 rfl Tryz.ntmps32 rfl (fun a hk => ?_)
    refine wpIn_seq ?_; refine wpIn_region_lit ?_
    refine st_box hk hS ?_; clear hk hS a; intro w b1 hS a hk
    refine st_alloc hk hS ?_; clear hk hS a; intro w b2 hS a hk
    (repeat' (first | (show wpListIn _ _ _ _ _ (_ :: _) _ _; first | (refine wx1 ?_; clear hk a; intro a hk) | (refine wx2 ?_ ?_ <;> (intro hp; clear hk a; intro a hk)) | (refine wx3 ?_; clear hk hS a; intro w b hS a hk) | (refine wx4 ?_; clear hk hS a; intro w hS a hk) | (refine wx5 ?_; clear hk hS a; intro w v hS a hk) | fail) | refine wx0 ?_ | (refine s_end hk ?_; clear hk a; intro a hk) | fail))
    have hbc := broken21_any ⟨k, m, x, y, d, e⟩ B _ _ hS
    rw [hbr] at hbc
    refine sg hk (g_callO hk (hf := by kernel_rfl) (hc := hbc) (h := ?_)); clear hk hS a; intro vr w hS a hk
    clear hbc
    obtain ⟨⟨pa, pn, pc⟩, rfl, hS1⟩ := hS
    have hS := hS1
    clear hS1
    simp only [ouV, Hd.v] at hk
    simp only at hb1 hS
    (repeat' (first | (show wpListIn _ _ _ _ _ (_ :: _) _ _; first | (refine wx1 ?_; clear hk a; intro a hk) | (refine wx2 ?_ ?_ <;> (intro hp; clear hk a; intro a hk)) | (refine wx3 ?_; clear hk hS a; intro w b hS a hk) | (refine wx4 ?_; clear hk hS a; intro w hS a hk) | (refine wx5 ?_; clear hk hS a; intro w v hS a hk) | fail) | refine wx0 ?_ | (refine s_end hk ?_; clear hk a; intro a hk) | fail))
    refine sg hk (g_callO hk (hf := by kernel_rfl) (hc := pout_any ⟨k, m, x, y, d, e⟩ _) (h := ?_)); clear hk a; rintro _ w ⟨rfl, hS1⟩ a hk; replace hS := hS.call0 hS1; clear hS1
    (repeat' (first | (show wpListIn _ _ _ _ _ (_ :: _) _ _; first | (refine wx1 ?_; clear hk a; intro a hk) | (refine wx2 ?_ ?_ <;> (intro hp; clear hk a; intro a hk)) | (refine wx3 ?_; clear hk hS a; intro w b hS a hk) | (refine wx4 ?_; clear hk hS a; intro w hS a hk) | (refine wx5 ?_; clear hk hS a; intro w v hS a hk) | fail) | refine wx0 ?_ | (refine s_end hk ?_; clear hk a; intro a hk) | fail))
    refine done1R hk rfl (.str hS (hT := aT rfl) (hs := zT rfl)) (h := ?_)
    exact ⟨noH, rfl, (hS.nilT 3 Int).sub (.cons .here (by repeat (first | exact Sub.refl | apply Sub.under)))⟩
end Go.Proofs.YthodcfdgahfniaaGreat
