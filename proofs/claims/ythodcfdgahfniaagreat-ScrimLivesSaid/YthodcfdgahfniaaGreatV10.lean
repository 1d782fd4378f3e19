/- Layer 21: a kid's calls: State. -/
import Derived.Test.YthodcfdgahfniaaGreatV09
set_option linter.all false
namespace Go.Proofs.YthodcfdgahfniaaGreat
open Go.RowKit
set_option maxRecDepth 100000
attribute [local irreducible] Go.Code.wpIn Go.wpListIn Go.Calls Gives Go.Exit.then Go.Exit.inBlock Done ObxE

set_option maxHeartbeats 2000000 in
theorem return21_any (s : PS) (B : Bs) (L : List HP) (w : World) (hS : St B L w) : Calls Tryz.prog 33 #[stV s] w (Ret (PhR B L (returnP s))) := by
  obtain ⟨k, m, x, y, d, e⟩ := s
  show Calls Tryz.prog 33 #[.agg #[.int .i64 k, .int .i64 m, .int .i64 x, .int .i64 y, .int .i64 d, .int .i64 e]] w _
  by_cases h1 : k = 5 ∨ k = 6
  · have hle : leaL k = true := decide_eq_true h1
    rw [show returnP ⟨k, m, x, y, d, e⟩ = overP (tellP (outP ⟨k, m, x, y, d, e⟩) [8]) 1 from if_pos h1]
    refine enter Tryz.func33 rfl Tryz.ntmps33 rfl (fun a hk => ?_)
    refine wpIn_seq ?_; refine wpIn_region_lit ?_
    refine st_box hk hS ?_; clear hk hS a; intro w b1 hS a hk
    refine st_alloc hk hS ?_; clear hk hS a; intro w b2 hS a hk
    (repeat' (first | (show wpListIn _ _ _ _ _ (_ :: _) _ _; first | (refine wx1 ?_; clear hk a; intro a hk) | (refine wx2 ?_ ?_ <;> (intro hp; clear hk a; intro a hk)) | (refine wx3 ?_; clear hk hS a; intro w b hS a hk) | (refine wx4 ?_; clear hk hS a; intro w hS a hk) | (refine wx5 ?_; clear hk hS a; intro w v hS a hk) | fail) | refine wx0 ?_ | (refine s_end hk ?_; clear hk a; intro a hk) | fail))
    refine sg hk (g_callO hk (hf := by kernel_rfl) (hc := leaving_any k m x y _) (h := ?_)); clear hk a; rintro _ w ⟨rfl, hS1⟩ a hk; replace hS := hS.call0 hS1; clear hS1
    rw [hle] at hk
    (repeat' (first | (show wpListIn _ _ _ _ _ (_ :: _) _ _; first | (refine wx1 ?_; clear hk a; intro a hk) | (refine wx2 ?_ ?_ <;> (intro hp; clear hk a; intro a hk)) | (refine wx3 ?_; clear hk hS a; intro w b hS a hk) | (refine wx4 ?_; clear hk hS a; intro w hS a hk) | (refine wx5 ?_; clear hk hS a; intro w v hS a hk) | fail) | refine wx0 ?_ | (refine s_end hk ?_; clear hk a; intro a hk) | fail))
    refine sg hk (g_callO hk (hf := by kernel_rfl) (hc := pout_any ⟨k, m, x, y, d, e⟩ _) (h := ?_)); clear hk a; rintro _ w ⟨rfl, hS1⟩ a hk; replace hS := hS.call0 hS1; clear hS1
    (repeat' (first | (show wpListIn _ _ _ _ _ (_ :: _) _ _; first | (refine wx1 ?_; clear hk a; intro a hk) | (refine wx2 ?_ ?_ <;> (intro hp; clear hk a; intro a hk)) | (refine wx3 ?_; clear hk hS a; intro w b hS a hk) | (refine wx4 ?_; clear hk hS a; intro w hS a hk) | (refine wx5 ?_; clear hk hS a; intro w v hS a hk) | fail) | refine wx0 ?_ | (refine s_end hk ?_; clear hk a; intro a hk) | fail))
    rename Value => vt
    refine sg hk (g_callO hk (hf := by kernel_rfl) (hc := tell_any (outP ⟨k, m, x, y, d, e⟩) noH [8] vt _ _ _ (Nat.zero_le _) (by decide) (hS.nilT 3 Int)) (h := ?_)); clear hk hS a; intro vr w hS a hk
    obtain ⟨⟨pa', pn', pc'⟩, rfl, hS1⟩ := hS
    have hS := hS1
    clear hS1
    (repeat' (first | (show wpListIn _ _ _ _ _ (_ :: _) _ _; first | (refine wx1 ?_; clear hk a; intro a hk) | (refine wx2 ?_ ?_ <;> (intro hp; clear hk a; intro a hk)) | (refine wx3 ?_; clear hk hS a; intro w b hS a hk) | (refine wx4 ?_; clear hk hS a; intro w hS a hk) | (refine wx5 ?_; clear hk hS a; intro w v hS a hk) | fail) | refine wx0 ?_ | (refine s_end hk ?_; clear hk a; intro a hk) | fail))
    refine sg hk (g_callO hk (hf := by kernel_rfl) (hc := over_any (tellP (outP ⟨k, m, x, y, d, e⟩) [8]) ⟨pa', pn', pc'⟩ 1 _) (h := ?_)); clear hk a; rintro _ w ⟨rfl, hS1⟩ a hk; replace hS := hS.call0 hS1; clear hS1
    (repeat' (first | (show wpListIn _ _ _ _ _ (_ :: _) _ _; first | (refine wx1 ?_; clear hk a; intro a hk) | (refine wx2 ?_ ?_ <;> (intro hp; clear hk a; intro a hk)) | (refine wx3 ?_; clear hk hS a; intro w b hS a hk) | (refine wx4 ?_; clear hk hS a; intro w hS a hk) | (refine wx5 ?_; clear hk hS a; intro w v hS a hk) | fail) | refine wx0 ?_ | (refine s_end hk ?_; clear hk a; intro a hk) | fail))
    refine done1R hk rfl (.str hS (hT := aT rfl) (hs := zT rfl)) (h := ?_)
    exact ⟨⟨pa', pn', pc'⟩, rfl, hS.sub (.cons (by repeat (first | exact At.here | apply At.there)) (by repeat (first | exact Sub.refl | apply Sub.under)))⟩
  · have hle : leaL k = false := decide_eq_false h1
    by_cases h2 : k = 4
    · subst h2
      rw [show returnP ⟨4, m, x, y, d, e⟩ = toP (outP ⟨4, m, x, y, d, e⟩) 0 d from rfl]
      refine enter Tryz.func33 rfl Tryz.ntmps33 rfl (fun a hk => ?_)
      refine wpIn_seq ?_; refine wpIn_region_lit ?_
      refine st_box hk hS ?_; clear hk hS a; intro w b1 hS a hk
      refine st_alloc hk hS ?_; clear hk hS a; intro w b2 hS a hk
      (repeat' (first | (show wpListIn _ _ _ _ _ (_ :: _) _ _; first | (refine wx1 ?_; clear hk a; intro a hk) | (refine wx2 ?_ ?_ <;> (intro hp; clear hk a; intro a hk)) | (refine wx3 ?_; clear hk hS a; intro w b hS a hk) | (refine wx4 ?_; clear hk hS a; intro w hS a hk) | (refine wx5 ?_; clear hk hS a; intro w v hS a hk) | fail) | refine wx0 ?_ | (refine s_end hk ?_; clear hk a; intro a hk) | fail))
      refine sg hk (g_callO hk (hf := by kernel_rfl) (hc := leaving_any 4 m x y _) (h := ?_)); clear hk a; rintro _ w ⟨rfl, hS1⟩ a hk; replace hS := hS.call0 hS1; clear hS1
      rw [hle] at hk
      (repeat' (first | (show wpListIn _ _ _ _ _ (_ :: _) _ _; first | (refine wx1 ?_; clear hk a; intro a hk) | (refine wx2 ?_ ?_ <;> (intro hp; clear hk a; intro a hk)) | (refine wx3 ?_; clear hk hS a; intro w b hS a hk) | (refine wx4 ?_; clear hk hS a; intro w hS a hk) | (refine wx5 ?_; clear hk hS a; intro w v hS a hk) | fail) | refine wx0 ?_ | (refine s_end hk ?_; clear hk a; intro a hk) | fail))
      refine wp_drawn 5 mixed (by kernel_rfl) hk hS ?_; clear hk hS a
      (repeat' (first | (show ObxE _ _ _ _ _ _ _ _ _ (_ :: _) _ _ _; first | refine ox1 ?_ | (refine ox2 ?_ ?_ <;> intro hp) | fail) | fail))
      refine' obe_val (fun us a w hk hd hS => ?_) ?_; rotate_left; focus (have hk := Kn.vw hk (by repeat (first | exact VW.nil | apply VW.val rfl | apply VW.base rfl rfl | apply VW.res rfl | apply VW.upd rfl | apply VW.cpy rfl | apply VW.dep rfl | apply VW.fn rfl | apply VW.lnd rfl | apply VW.tak rfl)); exact g_callO hk (hf := by kernel_rfl) (hc := pout_any ⟨4, m, x, y, d, e⟩ _) (h := fun _ _ h => h))
      (repeat' (first | (show ObxE _ _ _ _ _ _ _ _ _ (_ :: _) _ _ _; first | refine ox1 ?_ | (refine ox2 ?_ ?_ <;> intro hp) | fail) | fail))
      refine' obe_val (fun us a w hk hd hS => ?_) ?_; rotate_left; focus (have hk := Kn.vw hk (by repeat (first | exact VW.nil | apply VW.val rfl | apply VW.base rfl rfl | apply VW.res rfl | apply VW.upd rfl | apply VW.cpy rfl | apply VW.dep rfl | apply VW.fn rfl | apply VW.lnd rfl | apply VW.tak rfl)); exact g_callO hk (hf := by kernel_rfl) (hc := to_any (outP ⟨4, m, x, y, d, e⟩) noH 0 d _) (h := fun _ _ h => h))
      refine obe_nil ⟨rfl, ?_⟩; intro us a w hk hS
      (repeat' (first | (show wpListIn _ _ _ _ _ (_ :: _) _ _; first | (refine wx1 ?_; clear hk a; intro a hk) | (refine wx2 ?_ ?_ <;> (intro hp; clear hk a; intro a hk)) | (refine wx3 ?_; clear hk hS a; intro w b hS a hk) | (refine wx4 ?_; clear hk hS a; intro w hS a hk) | (refine wx5 ?_; clear hk hS a; intro w v hS a hk) | fail) | refine wx0 ?_ | (refine s_end hk ?_; clear hk a; intro a hk) | fail))
      refine done1R hk rfl (.str hS (hT := aT rfl) (hs := zT rfl)) (h := ?_)
      exact ⟨noH, rfl, (hS.nilT 3 Int).sub (.cons .here (by repeat (first | exact Sub.refl | apply Sub.under)))⟩
    · rw [show returnP ⟨k, m, x, y, d, e⟩ = outP ⟨k, m, x, y, d, e⟩ from (if_neg h1).trans (if_neg h2)]
      refine enter Tryz.func33 rfl Tryz.ntmps33 rfl (fun a hk => ?_)
      refine wpIn_seq ?_; refine wpIn_region_lit ?_
      refine st_box hk hS ?_; clear hk hS a; intro w b1 hS a hk
      refine st_alloc hk hS ?_; clear hk hS a; intro w b2 hS a hk
      (repeat' (first | (show wpListIn _ _ _ _ _ (_ :: _) _ _; first | (refine wx1 ?_; clear hk a; intro a hk) | (refine wx2 ?_ ?_ <;> (intro hp; clear hk a; intro a hk)) | (refine wx3 ?_; clear hk hS a; intro w b hS a hk) | (refine wx4 ?_; clear hk hS a; intro w hS a hk) | (refine wx5 ?_; clear hk hS a; intro w v hS a hk) | fail) | refine wx0 ?_ | (refine s_end hk ?_; clear hk a; intro a hk) | fail))
      refine sg hk (g_callO hk (hf := by kernel_rfl) (hc := leaving_any k m x y _) (h := ?_)); clear hk a; rintro _ w ⟨rfl, hS1⟩ a hk; replace hS := hS.call0 hS1; clear hS1
      rw [hle] at hk
      (repeat' (first | (show wpListIn _ _ _ _ _ (_ :: _) _ _; first | (refine wx1 ?_; clear hk a; intro a hk) | (refine wx2 ?_ ?_ <;> (intro hp; clear hk a; intro a hk)) | (refine wx3 ?_; clear hk hS a; intro w b hS a hk) | (refine wx4 ?_; clear hk hS a; intro w hS a hk) | (refine wx5 ?_; clear hk hS a; intro w v hS a hk) | fail) | refine wx0 ?_ | (refine s_end hk ?_; clear hk a; intro a hk) | fail))
      refine sg hk (g_callO hk (hf := by kernel_rfl) (hc := pout_any ⟨k, m, x, y, d, e⟩ _) (h := ?_)); clear hk a; rintro _ w ⟨rfl, hS1⟩ a hk; replace hS := hS.call0 hS1; clear hS1
      (repeat' (first | (show wpListIn _ _ _ _ _ (_ :: _) _ _; first | (refine wx1 ?_; clear hk a; intro a hk) | (refine wx2 ?_ ?_ <;> (intro hp; clear hk a; intro a hk)) | (refine wx3 ?_; clear hk hS a; intro w b hS a hk) | (refine wx4 ?_; clear hk hS a; intro w hS a hk) | (refine wx5 ?_; clear hk hS a; intro w v hS a hk) | fail) | refine wx0 ?_ | (refine s_end hk ?_; clear hk a; intro a hk) | fail))
      refine done1R hk rfl (.str hS (hT := aT rfl) (hs := zT rfl)) (h := ?_)
      exact ⟨noH, rfl, (hS.nilT 3 Int).sub (.cons .here (by repeat (first | exact Sub.refl | apply Sub.under)))⟩
set_option maxHeartbeats 2000000 in
theorem frame21_any (s : PS) (B : Bs) (L : List HP) (w : World) (hS : St B L w) : Calls Tryz.prog 6 #[stV s] w (Ret (PhR B L (frameP s))) := by
  obtain ⟨k, m, x, y, d, e⟩ := s
  show Calls Tryz.prog 6 #[.agg #[.int .i64 k, .int .i64 m, .int .i64 x, .int .i64 y, .int .i64 d, .int .i64 e]] w _
  by_cases h1 : k = 2 ∨ k = 5
  · have hk7 : 0 ≤ k ∧ k ≤ 6 := by omega
    rw [show frameP ⟨k, m, x, y, d, e⟩ = toP { outP ⟨k, m, x, y, d, e⟩ with j := 2 } (k + 1) d from if_pos h1]
    refine enter Tryz.func6 rfl Tryz.ntmps6 rfl (fun a hk => ?_)
    refine wpIn_seq ?_; refine wpIn_region_lit ?_
    refine st_box hk hS ?_; clear hk hS a; intro w b1 hS a hk
    refine st_alloc hk hS ?_; clear hk hS a; intro w b2 hS a hk
    (repeat' (first | (show wpListIn _ _ _ _ _ (_ :: _) _ _; first | (refine wx1 ?_; clear hk a; intro a hk) | (refine wx2 ?_ ?_ <;> (intro hp; clear hk a; intro a hk)) | (refine wx3 ?_; clear hk hS a; intro w b hS a hk) | (refine wx4 ?_; clear hk hS a; intro w hS a hk) | (refine wx5 ?_; clear hk hS a; intro w v hS a hk) | fail) | refine wx0 ?_ | (refine s_end hk ?_; clear hk a; intro a hk) | fail))
    refine sg hk (g_callO hk (hf := by kernel_rfl) (hc := pout_any ⟨k, m, x, y, d, e⟩ _) (h := ?_)); clear hk a; rintro _ w ⟨rfl, hS1⟩ a hk; replace hS := hS.call0 hS1; clear hS1
    rcases h1 with rfl | rfl
    · (repeat' (first | (show wpListIn _ _ _ _ _ (_ :: _) _ _; first | (refine wx1 ?_; clear hk a; intro a hk) | (refine wx2 ?_ ?_ <;> (intro hp; clear hk a; intro a hk)) | (refine wx3 ?_; clear hk hS a; intro w b hS a hk) | (refine wx4 ?_; clear hk hS a; intro w hS a hk) | (refine wx5 ?_; clear hk hS a; intro w v hS a hk) | fail) | refine wx0 ?_ | (refine s_end hk ?_; clear hk a; intro a hk) | fail))
      refine sg hk (g_callO hk (hf := by kernel_rfl) (hc := to_any { outP ⟨2, m, x, y, d, e⟩ with j := 2 } noH 3 d _) (h := ?_)); clear hk a; rintro _ w ⟨rfl, hS1⟩ a hk; replace hS := hS.call0 hS1; clear hS1
      (repeat' (first | (show wpListIn _ _ _ _ _ (_ :: _) _ _; first | (refine wx1 ?_; clear hk a; intro a hk) | (refine wx2 ?_ ?_ <;> (intro hp; clear hk a; intro a hk)) | (refine wx3 ?_; clear hk hS a; intro w b hS a hk) | (refine wx4 ?_; clear hk hS a; intro w hS a hk) | (refine wx5 ?_; clear hk hS a; intro w v hS a hk) | fail) | refine wx0 ?_ | (refine s_end hk ?_; clear hk a; intro a hk) | fail))
      refine done1R hk rfl (.str hS (hT := aT rfl) (hs := zT rfl)) (h := ?_)
      exact ⟨noH, rfl, (hS.nilT 3 Int).sub (.cons .here (by repeat (first | exact Sub.refl | apply Sub.under)))⟩
    · (repeat' (first | (show wpListIn _ _ _ _ _ (_ :: _) _ _; first | (refine wx1 ?_; clear hk a; intro a hk) | (refine wx2 ?_ ?_ <;> (intro hp; clear hk a; intro a hk)) | (refine wx3 ?_; clear hk hS a; intro w b hS a hk) | (refine wx4 ?_; clear hk hS a; intro w hS a hk) | (refine wx5 ?_; clear hk hS a; intro w v hS a hk) | fail) | refine wx0 ?_ | (refine s_end hk ?_; clear hk a; intro a hk) | fail))
      refine sg hk (g_callO hk (hf := by kernel_rfl) (hc := to_any { outP ⟨5, m, x, y, d, e⟩ with j := 2 } noH 6 d _) (h := ?_)); clear hk a; rintro _ w ⟨rfl, hS1⟩ a hk; replace hS := hS.call0 hS1; clear hS1
      (repeat' (first | (show wpListIn _ _ _ _ _ (_ :: _) _ _; first | (refine wx1 ?_; clear hk a; intro a hk) | (refine wx2 ?_ ?_ <;> (intro hp; clear hk a; intro a hk)) | (refine wx3 ?_; clear hk hS a; intro w b hS a hk) | (refine wx4 ?_; clear hk hS a; intro w hS a hk) | (refine wx5 ?_; clear hk hS a; intro w v hS a hk) | fail) | refine wx0 ?_ | (refine s_end hk ?_; clear hk a; intro a hk) | fail))
      refine done1R hk rfl (.str hS (hT := aT rfl) (hs := zT rfl)) (h := ?_)
      exact ⟨noH, rfl, (hS.nilT 3 Int).sub (.cons .here (by repeat (first | exact Sub.refl | apply Sub.under)))⟩
  · rw [show frameP ⟨k, m, x, y, d, e⟩ = outP ⟨k, m, x, y, d, e⟩ from if_neg h1]
    refine enter Tryz.func6 rfl Tryz.ntmps6 rfl (fun a hk => ?_)
    refine wpIn_seq ?_; refine wpIn_region_lit ?_
    refine st_box hk hS ?_; clear hk hS a; intro w b1 hS a hk
    refine st_alloc hk hS ?_; clear hk hS a; intro w b2 hS a hk
    (repeat' (first | (show wpListIn _ _ _ _ _ (_ :: _) _ _; first | (refine wx1 ?_; clear hk a; intro a hk) | (refine wx2 ?_ ?_ <;> (intro hp; clear hk a; intro a hk)) | (refine wx3 ?_; clear hk hS a; intro w b hS a hk) | (refine wx4 ?_; clear hk hS a; intro w hS a hk) | (refine wx5 ?_; clear hk hS a; intro w v hS a hk) | fail) | refine wx0 ?_ | (refine s_end hk ?_; clear hk a; intro a hk) | fail))
    refine sg hk (g_callO hk (hf := by kernel_rfl) (hc := pout_any ⟨k, m, x, y, d, e⟩ _) (h := ?_)); clear hk a; rintro _ w ⟨rfl, hS1⟩ a hk; replace hS := hS.call0 hS1; clear hS1
    (repeat' (first | (show wpListIn _ _ _ _ _ (_ :: _) _ _; first | (refine wx1 ?_; clear hk a; intro a hk) | (refine wx2 ?_ ?_ <;> (intro hp; clear hk a; intro a hk)) | (refine wx3 ?_; clear hk hS a; intro w b hS a hk) | (refine wx4 ?_; clear hk hS a; intro w hS a hk) | (refine wx5 ?_; clear hk hS a; intro w v hS a hk) | fail) | refine wx0 ?_ | (refine s_end hk ?_; clear hk a; intro a hk) | fail))
    all_goals try (exfalso; omega)
    refine done1R hk rfl (.str hS (hT := aT rfl) (hs := zT rfl)) (h := ?_)
    exact ⟨noH, rfl, (hS.nilT 3 Int).sub (.cons .here (by repeat (first | exact Sub.refl | apply Sub.under)))⟩
set_option maxHeartbeats 2000000 in
theorem end21_any (s : PS) (hh : Int) (B : Bs) (L : List HP) (w : World) (hS : St B L w) : Calls Tryz.prog 53 #[stV s, .int .i64 hh] w (Ret (PhR B L (endP s hh))) := by
  obtain ⟨k, m, x, y, d, e⟩ := s
  show Calls Tryz.prog 53 #[.agg #[.int .i64 k, .int .i64 m, .int .i64 x, .int .i64 y, .int .i64 d, .int .i64 e], .int .i64 hh] w _
  by_cases h1 : k = 2 ∨ k = 3
  · have he : entL k = true := decide_eq_true h1
    rw [show endP ⟨k, m, x, y, d, e⟩ hh = overP (tellP (outP ⟨k, m, x, y, d, e⟩) [hh]) 0 from if_pos h1]
    refine enter Tryz.func53 rfl Tryz.ntmps53 rfl (fun a hk => ?_)
    refine wpIn_seq ?_; refine wpIn_region_lit ?_
    refine st_box hk hS ?_; clear hk hS a; intro w b1 hS a hk
    refine st_alloc hk hS ?_; clear hk hS a; intro w b2 hS a hk
    (repeat' (first | (show wpListIn _ _ _ _ _ (_ :: _) _ _; first | (refine wx1 ?_; clear hk a; intro a hk) | (refine wx2 ?_ ?_ <;> (intro hp; clear hk a; intro a hk)) | (refine wx3 ?_; clear hk hS a; intro w b hS a hk) | (refine wx4 ?_; clear hk hS a; intro w hS a hk) | (refine wx5 ?_; clear hk hS a; intro w v hS a hk) | fail) | refine wx0 ?_ | (refine s_end hk ?_; clear hk a; intro a hk) | fail))
    refine sg hk (g_callO hk (hf := by kernel_rfl) (hc := pout_any ⟨k, m, x, y, d, e⟩ _) (h := ?_)); clear hk a; rintro _ w ⟨rfl, hS1⟩ a hk; replace hS := hS.call0 hS1; clear hS1
    (repeat' (first | (show wpListIn _ _ _ _ _ (_ :: _) _ _; first | (refine wx1 ?_; clear hk a; intro a hk) | (refine wx2 ?_ ?_ <;> (intro hp; clear hk a; intro a hk)) | (refine wx3 ?_; clear hk hS a; intro w b hS a hk) | (refine wx4 ?_; clear hk hS a; intro w hS a hk) | (refine wx5 ?_; clear hk hS a; intro w v hS a hk) | fail) | refine wx0 ?_ | (refine s_end hk ?_; clear hk a; intro a hk) | fail))
    refine sg hk (g_callO hk (hf := by kernel_rfl) (hc := entering_any k m x y _) (h := ?_)); clear hk a; rintro _ w ⟨rfl, hS1⟩ a hk; replace hS := hS.call0 hS1; clear hS1
    rw [he] at hk
    (repeat' (first | (show wpListIn _ _ _ _ _ (_ :: _) _ _; first | (refine wx1 ?_; clear hk a; intro a hk) | (refine wx2 ?_ ?_ <;> (intro hp; clear hk a; intro a hk)) | (refine wx3 ?_; clear hk hS a; intro w b hS a hk) | (refine wx4 ?_; clear hk hS a; intro w hS a hk) | (refine wx5 ?_; clear hk hS a; intro w v hS a hk) | fail) | refine wx0 ?_ | (refine s_end hk ?_; clear hk a; intro a hk) | fail))
    rename Value => vt
    refine sg hk (g_callO hk (hf := by kernel_rfl) (hc := tell_any (outP ⟨k, m, x, y, d, e⟩) noH [hh] vt _ _ _ (Nat.zero_le _) (by simp) (hS.nilT 3 Int)) (h := ?_)); clear hk hS a; intro vr w hS a hk
    obtain ⟨⟨pa', pn', pc'⟩, rfl, hS1⟩ := hS
    have hS := hS1
    clear hS1
    (repeat' (first | (show wpListIn _ _ _ _ _ (_ :: _) _ _; first | (refine wx1 ?_; clear hk a; intro a hk) | (refine wx2 ?_ ?_ <;> (intro hp; clear hk a; intro a hk)) | (refine wx3 ?_; clear hk hS a; intro w b hS a hk) | (refine wx4 ?_; clear hk hS a; intro w hS a hk) | (refine wx5 ?_; clear hk hS a; intro w v hS a hk) | fail) | refine wx0 ?_ | (refine s_end hk ?_; clear hk a; intro a hk) | fail))
    refine sg hk (g_callO hk (hf := by kernel_rfl) (hc := over_any (tellP (outP ⟨k, m, x, y, d, e⟩) [hh]) ⟨pa', pn', pc'⟩ 0 _) (h := ?_)); clear hk a; rintro _ w ⟨rfl, hS1⟩ a hk; replace hS := hS.call0 hS1; clear hS1
    (repeat' (first | (show wpListIn _ _ _ _ _ (_ :: _) _ _; first | (refine wx1 ?_; clear hk a; intro a hk) | (refine wx2 ?_ ?_ <;> (intro hp; clear hk a; intro a hk)) | (refine wx3 ?_; clear hk hS a; intro w b hS a hk) | (refine wx4 ?_; clear hk hS a; intro w hS a hk) | (refine wx5 ?_; clear hk hS a; intro w v hS a hk) | fail) | refine wx0 ?_ | (refine s_end hk ?_; clear hk a; intro a hk) | fail))
    refine done1R hk rfl (.str hS (hT := aT rfl) (hs := zT rfl)) (h := ?_)
    exact ⟨⟨pa', pn', pc'⟩, rfl, hS.sub (.cons (by repeat (first | exact At.here | apply At.there)) (by repeat (first | exact Sub.refl | apply Sub.under)))⟩
  · have he : entL k = false := decide_eq_false h1
    by_cases h2 : k = 5 ∨ k = 6
    · have hle : leaL k = true := decide_eq_true h2
      rw [show endP ⟨k, m, x, y, d, e⟩ hh = tellP { outP ⟨k, m, x, y, d, e⟩ with en := true, go := true } [7] from (if_neg h1).trans (if_pos h2)]
      refine enter Tryz.func53 rfl Tryz.ntmps53 rfl (fun a hk => ?_)
      refine wpIn_seq ?_; refine wpIn_region_lit ?_
      refine st_box hk hS ?_; clear hk hS a; intro w b1 hS a hk
      refine st_alloc hk hS ?_; clear hk hS a; intro w b2 hS a hk
      (repeat' (first | (show wpListIn _ _ _ _ _ (_ :: _) _ _; first | (refine wx1 ?_; clear hk a; intro a hk) | (refine wx2 ?_ ?_ <;> (intro hp; clear hk a; intro a hk)) | (refine wx3 ?_; clear hk hS a; intro w b hS a hk) | (refine wx4 ?_; clear hk hS a; intro w hS a hk) | (refine wx5 ?_; clear hk hS a; intro w v hS a hk) | fail) | refine wx0 ?_ | (refine s_end hk ?_; clear hk a; intro a hk) | fail))
      refine sg hk (g_callO hk (hf := by kernel_rfl) (hc := pout_any ⟨k, m, x, y, d, e⟩ _) (h := ?_)); clear hk a; rintro _ w ⟨rfl, hS1⟩ a hk; replace hS := hS.call0 hS1; clear hS1
      (repeat' (first | (show wpListIn _ _ _ _ _ (_ :: _) _ _; first | (refine wx1 ?_; clear hk a; intro a hk) | (refine wx2 ?_ ?_ <;> (intro hp; clear hk a; intro a hk)) | (refine wx3 ?_; clear hk hS a; intro w b hS a hk) | (refine wx4 ?_; clear hk hS a; intro w hS a hk) | (refine wx5 ?_; clear hk hS a; intro w v hS a hk) | fail) | refine wx0 ?_ | (refine s_end hk ?_; clear hk a; intro a hk) | fail))
      refine sg hk (g_callO hk (hf := by kernel_rfl) (hc := entering_any k m x y _) (h := ?_)); clear hk a; rintro _ w ⟨rfl, hS1⟩ a hk; replace hS := hS.call0 hS1; clear hS1
      rw [he] at hk
      (repeat' (first | (show wpListIn _ _ _ _ _ (_ :: _) _ _; first | (refine wx1 ?_; clear hk a; intro a hk) | (refine wx2 ?_ ?_ <;> (intro hp; clear hk a; intro a hk)) | (refine wx3 ?_; clear hk hS a; intro w b hS a hk) | (refine wx4 ?_; clear hk hS a; intro w hS a hk) | (refine wx5 ?_; clear hk hS a; intro w v hS a hk) | fail) | refine wx0 ?_ | (refine s_end hk ?_; clear hk a; intro a hk) | fail))
      refine sg hk (g_callO hk (hf := by kernel_rfl) (hc := leaving_any k m x y _) (h := ?_)); clear hk a; rintro _ w ⟨rfl, hS1⟩ a hk; replace hS := hS.call0 hS1; clear hS1
      rw [hle] at hk
      (repeat' (first | (show wpListIn _ _ _ _ _ (_ :: _) _ _; first | (refine wx1 ?_; clear hk a; intro a hk) | (refine wx2 ?_ ?_ <;> (intro hp; clear hk a; intro a hk)) | (refine wx3 ?_; clear hk hS a; intro w b hS a hk) | (refine wx4 ?_; clear hk hS a; intro w hS a hk) | (refine wx5 ?_; clear hk hS a; intro w v hS a hk) | fail) | refine wx0 ?_ | (refine s_end hk ?_; clear hk a; intro a hk) | fail))
      rename Value => vt
      refine sg hk (g_callO hk (hf := by kernel_rfl) (hc := tell_any { outP ⟨k, m, x, y, d, e⟩ with en := true, go := true } noH [7] vt _ _ _ (Nat.zero_le _) (by decide) (hS.nilT 3 Int)) (h := ?_)); clear hk hS a; intro vr w hS a hk
      obtain ⟨⟨pa', pn', pc'⟩, rfl, hS1⟩ := hS
      have hS := hS1
      clear hS1
      (repeat' (first | (show wpListIn _ _ _ _ _ (_ :: _) _ _; first | (refine wx1 ?_; clear hk a; intro a hk) | (refine wx2 ?_ ?_ <;> (intro hp; clear hk a; intro a hk)) | (refine wx3 ?_; clear hk hS a; intro w b hS a hk) | (refine wx4 ?_; clear hk hS a; intro w hS a hk) | (refine wx5 ?_; clear hk hS a; intro w v hS a hk) | fail) | refine wx0 ?_ | (refine s_end hk ?_; clear hk a; intro a hk) | fail))
      refine done1R hk rfl (.str hS (hT := aT rfl) (hs := zT rfl)) (h := ?_)
      exact ⟨⟨pa', pn', pc'⟩, rfl, hS.sub (.cons (by repeat (first | exact At.here | apply At.there)) (by repeat (first | exact Sub.refl | apply Sub.under)))⟩
    · have hle : leaL k = false := decide_eq_false h2
      rw [show endP ⟨k, m, x, y, d, e⟩ hh = outP ⟨k, m, x, y, d, e⟩ from (if_neg h1).trans (if_neg h2)]
      refine enter Tryz.func53 rfl Tryz.ntmps53 rfl (fun a hk => ?_)
      refine wpIn_seq ?_; refine wpIn_region_lit ?_
      refine st_box hk hS ?_; clear hk hS a; intro w b1 hS a hk
      refine st_alloc hk hS ?_; clear hk hS a; intro w b2 hS a hk
      (repeat' (first | (show wpListIn _ _ _ _ _ (_ :: _) _ _; first | (refine wx1 ?_; clear hk a; intro a hk) | (refine wx2 ?_ ?_ <;> (intro hp; clear hk a; intro a hk)) | (refine wx3 ?_; clear hk hS a; intro w b hS a hk) | (refine wx4 ?_; clear hk hS a; intro w hS a hk) | (refine wx5 ?_; clear hk hS a; intro w v hS a hk) | fail) | refine wx0 ?_ | (refine s_end hk ?_; clear hk a; intro a hk) | fail))
      refine sg hk (g_callO hk (hf := by kernel_rfl) (hc := pout_any ⟨k, m, x, y, d, e⟩ _) (h := ?_)); clear hk a; rintro _ w ⟨rfl, hS1⟩ a hk; replace hS := hS.call0 hS1; clear hS1
      (repeat' (first | (show wpListIn _ _ _ _ _ (_ :: _) _ _; first | (refine wx1 ?_; clear hk a; intro a hk) | (refine wx2 ?_ ?_ <;> (intro hp; clear hk a; intro a hk)) | (refine wx3 ?_; clear hk hS a; intro w b hS a hk) | (refine wx4 ?_; clear hk hS a; intro w hS a hk) | (refine wx5 ?_; clear hk hS a; intro w v hS a hk) | fail) | refine wx0 ?_ | (refine s_end hk ?_; clear hk a; intro a hk) | fail))
      refine sg hk (g_callO hk (hf := by kernel_rfl) (hc := entering_any k m x y _) (h := ?_)); clear hk a; rintro _ w ⟨rfl, hS1⟩ a hk; replace hS := hS.call0 hS1; clear hS1
      rw [he] at hk
      (repeat' (first | (show wpListIn _ _ _ _ _ (_ :: _) _ _; first | (refine wx1 ?_; clear hk a; intro a hk) | (refine wx2 ?_ ?_ <;> (intro hp; clear hk a; intro a hk)) | (refine wx3 ?_; clear hk hS a; intro w b hS a hk) | (refine wx4 ?_; clear hk hS a; intro w hS a hk) | (refine wx5 ?_; clear hk hS a; intro w v hS a hk) | fail) | refine wx0 ?_ | (refine s_end hk ?_; clear hk a; intro a hk) | fail))
      refine sg hk (g_callO hk (hf := by kernel_rfl) (hc := leaving_any k m x y _) (h := ?_)); clear hk a; rintro _ w ⟨rfl, hS1⟩ a hk; replace hS := hS.call0 hS1; clear hS1
      rw [hle] at hk
      (repeat' (first | (show wpListIn _ _ _ _ _ (_ :: _) _ _; first | (refine wx1 ?_; clear hk a; intro a hk) | (refine wx2 ?_ ?_ <;> (intro hp; clear hk a; intro a hk)) | (refine wx3 ?_; clear hk hS a; intro w b hS a hk) | (refine wx4 ?_; clear hk hS a; intro w hS a hk) | (refine wx5 ?_; clear hk hS a; intro w v hS a hk) | fail) | refine wx0 ?_ | (refine s_end hk ?_; clear hk a; intro a hk) | fail))
      (repeat' (first | (show wpListIn _ _ _ _ _ (_ :: _) _ _; first | (refine wx1 ?_; clear hk a; intro a hk) | (refine wx2 ?_ ?_ <;> (intro hp; clear hk a; intro a hk)) | (refine wx3 ?_; clear hk hS a; intro w b hS a hk) | (refine wx4 ?_; clear hk hS a; intro w hS a hk) | (refine wx5 ?_; clear hk hS a; intro w v hS a hk) | fail) | refine wx0 ?_ | (refine s_end hk ?_; clear hk a; intro a hk) | fail))
      refine done1R hk rfl (.str hS (hT := aT rfl) (hs := zT rfl)) (h := ?_)
      exact ⟨noH, rfl, (hS.nilT 3 Int).sub (.cons .here (by repeat (first | exact Sub.refl | apply Sub.under)))⟩
set_option maxHeartbeats 2000000 in
theorem finish21_any (s : PS) (B : Bs) (L : List HP) (w : World) (hS : St B L w) : Calls Tryz.prog 27 #[stV s] w (Ret (PhR B L (finishP s))) := by
  obtain ⟨k, m, x, y, d, e⟩ := s
  show Calls Tryz.prog 27 #[.agg #[.int .i64 k, .int .i64 m, .int .i64 x, .int .i64 y, .int .i64 d, .int .i64 e]] w _
  by_cases h1 : k = 3 ∨ k = 6
  · rw [show finishP ⟨k, m, x, y, d, e⟩ = endP ⟨k, m, x, y, d, e⟩ 3 from if_pos h1]
    have hE := fun B L w hS => end21_any ⟨k, m, x, y, d, e⟩ 3 B L w hS
    generalize hu : endP ⟨k, m, x, y, d, e⟩ 3 = u at *
    obtain ⟨⟨k1, m1, x1, y1, d1, e1⟩, l1, j1, mj1, en1, me1, go1⟩ := u
    rcases h1 with rfl | rfl
    all_goals (
      refine enter Tryz.func27 rfl Tryz.ntmps27 rfl (fun a hk => ?_)
      refine wpIn_seq ?_; refine wpIn_region_lit ?_
      refine st_box hk hS ?_; clear hk hS a; intro w b1 hS a hk
      refine st_alloc hk hS ?_; clear hk hS a; intro w b2 hS a hk
      (repeat' (first | (show wpListIn _ _ _ _ _ (_ :: _) _ _; first | (refine wx1 ?_; clear hk a; intro a hk) | (refine wx2 ?_ ?_ <;> (intro hp; clear hk a; intro a hk)) | (refine wx3 ?_; clear hk hS a; intro w b hS a hk) | (refine wx4 ?_; clear hk hS a; intro w hS a hk) | (refine wx5 ?_; clear hk hS a; intro w v hS a hk) | fail) | refine wx0 ?_ | (refine s_end hk ?_; clear hk a; intro a hk) | fail))
      refine sg hk (g_callO hk (hf := by kernel_rfl) (hc := hE _ _ _ hS) (h := ?_)); clear hk hS a; intro vr w hS a hk
      obtain ⟨⟨pa, pn, pc⟩, rfl, hS1⟩ := hS
      have hS := hS1
      clear hS1
      simp only [ouV, Hd.v] at hk
      (repeat' (first | (show wpListIn _ _ _ _ _ (_ :: _) _ _; first | (refine wx1 ?_; clear hk a; intro a hk) | (refine wx2 ?_ ?_ <;> (intro hp; clear hk a; intro a hk)) | (refine wx3 ?_; clear hk hS a; intro w b hS a hk) | (refine wx4 ?_; clear hk hS a; intro w hS a hk) | (refine wx5 ?_; clear hk hS a; intro w v hS a hk) | fail) | refine wx0 ?_ | (refine s_end hk ?_; clear hk a; intro a hk) | fail))
      refine done1R hk rfl (.str hS (hT := aT rfl) (hs := zT rfl)) (h := ?_)
      exact ⟨⟨pa, pn, pc⟩, rfl, hS.sub (.cons (by repeat (first | exact At.here | apply At.there)) (by repeat (first | exact Sub.refl | apply Sub.under)))⟩)
  · rw [show finishP ⟨k, m, x, y, d, e⟩ = outP ⟨k, m, x, y, d, e⟩ from if_neg h1]
    refine enter Tryz.func27 rfl Tryz.ntmps27 rfl (fun a hk => ?_)
    refine wpIn_seq ?_; refine wpIn_region_lit ?_
    refine st_box hk hS ?_; clear hk hS a; intro w b1 hS a hk
    refine st_alloc hk hS ?_; clear hk hS a; intro w b2 hS a hk
    (repeat' (first | (show wpListIn _ _ _ _ _ (_ :: _) _ _; first | (refine wx1 ?_; clear hk a; intro a hk) | (refine wx2 ?_ ?_ <;> (intro hp; clear hk a; intro a hk)) | (refine wx3 ?_; clear hk hS a; intro w b hS a hk) | (refine wx4 ?_; clear hk hS a; intro w hS a hk) | (refine wx5 ?_; clear hk hS a; intro w v hS a hk) | fail) | refine wx0 ?_ | (refine s_end hk ?_; clear hk a; intro a hk) | fail))
    all_goals try (exfalso; omega)
    refine sg hk (g_callO hk (hf := by kernel_rfl) (hc := pout_any ⟨k, m, x, y, d, e⟩ _) (h := ?_)); clear hk a; rintro _ w ⟨rfl, hS1⟩ a hk; replace hS := hS.call0 hS1; clear hS1
    (repeat' (first | (show wpListIn _ _ _ _ _ (_ :: _) _ _; first | (refine wx1 ?_; clear hk a; intro a hk) | (refine wx2 ?_ ?_ <;> (intro hp; clear hk a; intro a hk)) | (refine wx3 ?_; clear hk hS a; intro w b hS a hk) | (refine wx4 ?_; clear hk hS a; intro w hS a hk) | (refine wx5 ?_; clear hk hS a; intro w v hS a hk) | fail) | refine wx0 ?_ | (refine s_end hk ?_; clear hk a; intro a hk) | fail))
    refine done1R hk rfl (.str hS (hT := aT rfl) (hs := zT rfl)) (h := ?_)
    exact ⟨noH, rfl, (hS.nilT 3 Int).sub (.cons .here (by repeat (first | exact Sub.refl | apply Sub.under)))⟩
set_option maxHeartbeats 2000000 in
theorem cancel21_any (s : PS) (B : Bs) (L : List HP) (w : World) (hS : St B L w) : Calls Tryz.prog 34 #[stV s] w (Ret (PhR B L (cancelP s))) := by
  obtain ⟨k, m, x, y, d, e⟩ := s
  show Calls Tryz.prog 34 #[.agg #[.int .i64 k, .int .i64 m, .int .i64 x, .int .i64 y, .int .i64 d, .int .i64 e]] w _
  have hE := fun B L w hS => end21_any ⟨k, m, x, y, d, e⟩ 4 B L w hS
  unfold cancelP
  generalize hu : endP ⟨k, m, x, y, d, e⟩ 4 = u at *
  refine enter Tryz.func34 rfl Tryz.ntmps34 rfl (fun a hk => ?_)
  refine wpIn_seq ?_; refine wpIn_region_lit ?_
  refine st_box hk hS ?_; clear hk hS a; intro w b1 hS a hk
  refine st_alloc hk hS ?_; clear hk hS a; intro w b2 hS a hk
  (repeat' (first | (show wpListIn _ _ _ _ _ (_ :: _) _ _; first | (refine wx1 ?_; clear hk a; intro a hk) | (refine wx2 ?_ ?_ <;> (intro hp; clear hk a; intro a hk)) | (refine wx3 ?_; clear hk hS a; intro w b hS a hk) | (refine wx4 ?_; clear hk hS a; intro w hS a hk) | (refine wx5 ?_; clear hk hS a; intro w v hS a hk) | fail) | refine wx0 ?_ | (refine s_end hk ?_; clear hk a; intro a hk) | fail))
  refine sg hk (g_callO hk (hf := by kernel_rfl) (hc := hE _ _ _ hS) (h := ?_)); clear hk hS a; intro vr w hS a hk
  obtain ⟨⟨pa, pn, pc⟩, rfl, hS1⟩ := hS
  have hS := hS1
  clear hS1
  have hhk : (unmvP u).hk = u.hk := unmv_hk _
  rw [← hhk] at hS
  refine sg hk (g_callO hk (hf := by kernel_rfl) (hc := unmove_any u ⟨pa, pn, pc⟩ _) (h := ?_)); clear hk a; rintro _ w ⟨rfl, hS1⟩ a hk; replace hS := hS.call0 hS1; clear hS1
  generalize unmvP u = u1 at *
  obtain ⟨⟨k1, m1, x1, y1, d1, e1⟩, l1, j1, mj1, en1, me1, go1⟩ := u1
  simp only [ouV, Hd.v] at hk
  (repeat' (first | (show wpListIn _ _ _ _ _ (_ :: _) _ _; first | (refine wx1 ?_; clear hk a; intro a hk) | (refine wx2 ?_ ?_ <;> (intro hp; clear hk a; intro a hk)) | (refine wx3 ?_; clear hk hS a; intro w b hS a hk) | (refine wx4 ?_; clear hk hS a; intro w hS a hk) | (refine wx5 ?_; clear hk hS a; intro w v hS a hk) | fail) | refine wx0 ?_ | (refine s_end hk ?_; clear hk a; intro a hk) | fail))
  refine done1R hk rfl (.str hS (hT := aT rfl) (hs := zT rfl)) (h := ?_)
  exact ⟨⟨pa, pn, pc⟩, rfl, hS.sub (.cons (by repeat (first | exact At.here | apply At.there)) (by repeat (first | exact Sub.refl | apply Sub.under)))⟩
set_option maxHeartbeats 2000000 in
theorem settle21_any (s : PS) (B : Bs) (L : List HP) (w : World) (hS : St B L w) : Calls Tryz.prog 35 #[stV s] w (Ret (PhR B L (settleP s))) := by
  obtain ⟨k, m, x, y, d, e⟩ := s
  show Calls Tryz.prog 35 #[.agg #[.int .i64 k, .int .i64 m, .int .i64 x, .int .i64 y, .int .i64 d, .int .i64 e]] w _
  have hE := fun B L w hS => cancel21_any ⟨k, m, x, y, d, e⟩ B L w hS
  unfold settleP
  generalize hu : cancelP ⟨k, m, x, y, d, e⟩ = u at *
  obtain ⟨⟨k1, m1, x1, y1, d1, e1⟩, l1, j1, mj1, en1, me1, go1⟩ := u
  simp only
  cases go1 with
  | true =>
    refine enter Tryz.func35 rfl Tryz.ntmps35 rfl (fun a hk => ?_)
    refine wpIn_seq ?_; refine wpIn_region_lit ?_
    refine st_box hk hS ?_; clear hk hS a; intro w b1 hS a hk
    refine st_alloc hk hS ?_; clear hk hS a; intro w b2 hS a hk
    (repeat' (first | (show wpListIn _ _ _ _ _ (_ :: _) _ _; first | (refine wx1 ?_; clear hk a; intro a hk) | (refine wx2 ?_ ?_ <;> (intro hp; clear hk a; intro a hk)) | (refine wx3 ?_; clear hk hS a; intro w b hS a hk) | (refine wx4 ?_; clear hk hS a; intro w hS a hk) | (refine wx5 ?_; clear hk hS a; intro w v hS a hk) | fail) | refine wx0 ?_ | (refine s_end hk ?_; clear hk a; intro a hk) | fail))
    refine sg hk (g_callO hk (hf := by kernel_rfl) (hc := hE _ _ _ hS) (h := ?_)); clear hk hS a; intro vr w hS a hk
    obtain ⟨⟨pa, pn, pc⟩, rfl, hS1⟩ := hS
    have hS := hS1
    clear hS1
    simp only [ouV, Hd.v] at hk
    (repeat' (first | (show wpListIn _ _ _ _ _ (_ :: _) _ _; first | (refine wx1 ?_; clear hk a; intro a hk) | (refine wx2 ?_ ?_ <;> (intro hp; clear hk a; intro a hk)) | (refine wx3 ?_; clear hk hS a; intro w b hS a hk) | (refine wx4 ?_; clear hk hS a; intro w hS a hk) | (refine wx5 ?_; clear hk hS a; intro w v hS a hk) | fail) | refine wx0 ?_ | (refine s_end hk ?_; clear hk a; intro a hk) | fail))
    refine done1R hk rfl (.str hS (hT := aT rfl) (hs := zT rfl)) (h := ?_)
    exact ⟨⟨pa, pn, pc⟩, rfl, hS.sub (.cons (by repeat (first | exact At.here | apply At.there)) (by repeat (first | exact Sub.refl | apply Sub.under)))⟩
  | false =>
    by_cases h1 : k = 1
    · subst h1
      refine enter Tryz.func35 rfl Tryz.ntmps35 rfl (fun a hk => ?_)
      refine wpIn_seq ?_; refine wpIn_region_lit ?_
      refine st_box hk hS ?_; clear hk hS a; intro w b1 hS a hk
      refine st_alloc hk hS ?_; clear hk hS a; intro w b2 hS a hk
      (repeat' (first | (show wpListIn _ _ _ _ _ (_ :: _) _ _; first | (refine wx1 ?_; clear hk a; intro a hk) | (refine wx2 ?_ ?_ <;> (intro hp; clear hk a; intro a hk)) | (refine wx3 ?_; clear hk hS a; intro w b hS a hk) | (refine wx4 ?_; clear hk hS a; intro w hS a hk) | (refine wx5 ?_; clear hk hS a; intro w v hS a hk) | fail) | refine wx0 ?_ | (refine s_end hk ?_; clear hk a; intro a hk) | fail))
      refine sg hk (g_callO hk (hf := by kernel_rfl) (hc := hE _ _ _ hS) (h := ?_)); clear hk hS a; intro vr w hS a hk
      obtain ⟨⟨pa, pn, pc⟩, rfl, hS1⟩ := hS
      have hS := hS1
      clear hS1
      simp only [ouV, Hd.v] at hk
      (repeat' (first | (show wpListIn _ _ _ _ _ (_ :: _) _ _; first | (refine wx1 ?_; clear hk a; intro a hk) | (refine wx2 ?_ ?_ <;> (intro hp; clear hk a; intro a hk)) | (refine wx3 ?_; clear hk hS a; intro w b hS a hk) | (refine wx4 ?_; clear hk hS a; intro w hS a hk) | (refine wx5 ?_; clear hk hS a; intro w v hS a hk) | fail) | refine wx0 ?_ | (refine s_end hk ?_; clear hk a; intro a hk) | fail))
      refine done1R hk rfl (.str hS (hT := aT rfl) (hs := zT rfl)) (h := ?_)
      exact ⟨⟨pa, pn, pc⟩, rfl, hS.sub (.cons (by repeat (first | exact At.here | apply At.there)) (by repeat (first | exact Sub.refl | apply Sub.under)))⟩
    · by_cases h2 : k = 4
      · subst h2
        refine enter Tryz.func35 rfl Tryz.ntmps35 rfl (fun a hk => ?_)
        refine wpIn_seq ?_; refine wpIn_region_lit ?_
        refine st_box hk hS ?_; clear hk hS a; intro w b1 hS a hk
        refine st_alloc hk hS ?_; clear hk hS a; intro w b2 hS a hk
        (repeat' (first | (show wpListIn _ _ _ _ _ (_ :: _) _ _; first | (refine wx1 ?_; clear hk a; intro a hk) | (refine wx2 ?_ ?_ <;> (intro hp; clear hk a; intro a hk)) | (refine wx3 ?_; clear hk hS a; intro w b hS a hk) | (refine wx4 ?_; clear hk hS a; intro w hS a hk) | (refine wx5 ?_; clear hk hS a; intro w v hS a hk) | fail) | refine wx0 ?_ | (refine s_end hk ?_; clear hk a; intro a hk) | fail))
        refine sg hk (g_callO hk (hf := by kernel_rfl) (hc := hE _ _ _ hS) (h := ?_)); clear hk hS a; intro vr w hS a hk
        obtain ⟨⟨pa, pn, pc⟩, rfl, hS1⟩ := hS
        have hS := hS1
        clear hS1
        simp only [ouV, Hd.v] at hk
        (repeat' (first | (show wpListIn _ _ _ _ _ (_ :: _) _ _; first | (refine wx1 ?_; clear hk a; intro a hk) | (refine wx2 ?_ ?_ <;> (intro hp; clear hk a; intro a hk)) | (refine wx3 ?_; clear hk hS a; intro w b hS a hk) | (refine wx4 ?_; clear hk hS a; intro w hS a hk) | (refine wx5 ?_; clear hk hS a; intro w v hS a hk) | fail) | refine wx0 ?_ | (refine s_end hk ?_; clear hk a; intro a hk) | fail))
        refine done1R hk rfl (.str hS (hT := aT rfl) (hs := zT rfl)) (h := ?_)
        exact ⟨⟨pa, pn, pc⟩, rfl, hS.sub (.cons (by repeat (first | exact At.here | apply At.there)) (by repeat (first | exact Sub.refl | apply Sub.under)))⟩
      · rw [decide_eq_false h1, decide_eq_false h2]
        refine enter Tryz.func35 rfl Tryz.ntmps35 rfl (fun a hk => ?_)
        refine wpIn_seq ?_; refine wpIn_region_lit ?_
        refine st_box hk hS ?_; clear hk hS a; intro w b1 hS a hk
        refine st_alloc hk hS ?_; clear hk hS a; intro w b2 hS a hk
        (repeat' (first | (show wpListIn _ _ _ _ _ (_ :: _) _ _; first | (refine wx1 ?_; clear hk a; intro a hk) | (refine wx2 ?_ ?_ <;> (intro hp; clear hk a; intro a hk)) | (refine wx3 ?_; clear hk hS a; intro w b hS a hk) | (refine wx4 ?_; clear hk hS a; intro w hS a hk) | (refine wx5 ?_; clear hk hS a; intro w v hS a hk) | fail) | refine wx0 ?_ | (refine s_end hk ?_; clear hk a; intro a hk) | fail))
        refine sg hk (g_callO hk (hf := by kernel_rfl) (hc := hE _ _ _ hS) (h := ?_)); clear hk hS a; intro vr w hS a hk
        obtain ⟨⟨pa, pn, pc⟩, rfl, hS1⟩ := hS
        have hS := hS1
        clear hS1
        simp only [ouV, Hd.v] at hk
        (repeat' (first | (show wpListIn _ _ _ _ _ (_ :: _) _ _; first | (refine wx1 ?_; clear hk a; intro a hk) | (refine wx2 ?_ ?_ <;> (intro hp; clear hk a; intro a hk)) | (refine wx3 ?_; clear hk hS a; intro w b hS a hk) | (refine wx4 ?_; clear hk hS a; intro w hS a hk) | (refine wx5 ?_; clear hk hS a; intro w v hS a hk) | fail) | refine wx0 ?_ | (refine s_end hk ?_; clear hk a; intro a hk) | fail))
        refine done1R hk rfl (.str hS (hT := aT rfl) (hs := zT rfl)) (h := ?_)
        exact ⟨⟨pa, pn, pc⟩, rfl, hS.sub (.cons (by repeat (first | exact At.here | apply At.there)) (by repeat (first | exact Sub.refl | apply Sub.under)))⟩
set_option maxHeartbeats 2000000 in
theorem shift21_any (s : PS) (dx dy dur : Int) (B : Bs) (L : List HP) (w : World) (hS : St B L w) : Calls Tryz.prog 36 #[stV s, .int .i64 dx, .int .i64 dy, .int .i64 dur] w (Ret (PhR B L (shiftP s dx dy dur))) := by
  obtain ⟨k, m, x, y, d, e⟩ := s
  show Calls Tryz.prog 36 #[.agg #[.int .i64 k, .int .i64 m, .int .i64 x, .int .i64 y, .int .i64 d, .int .i64 e], .int .i64 dx, .int .i64 dy, .int .i64 dur] w _
  by_cases h1 : k = 0
  · subst h1
    by_cases hx : dx = 0
    · by_cases hy : dy = 0
      · rw [show shiftP ⟨0, m, x, y, d, e⟩ dx dy dur = outP ⟨0, m, x, y, d, e⟩ from if_neg (fun h => h.2 ⟨hx, hy⟩)]
        refine enter Tryz.func36 rfl Tryz.ntmps36 rfl (fun a hk => ?_)
        refine wpIn_seq ?_; refine wpIn_region_lit ?_
        refine st_box hk hS ?_; clear hk hS a; intro w b1 hS a hk
        refine st_alloc hk hS ?_; clear hk hS a; intro w b2 hS a hk
        (repeat' (first | (show wpListIn _ _ _ _ _ (_ :: _) _ _; first | (refine wx1 ?_; clear hk a; intro a hk) | (refine wx2 ?_ ?_ <;> (intro hp; clear hk a; intro a hk)) | (refine wx3 ?_; clear hk hS a; intro w b hS a hk) | (refine wx4 ?_; clear hk hS a; intro w hS a hk) | (refine wx5 ?_; clear hk hS a; intro w v hS a hk) | fail) | refine wx0 ?_ | (refine s_end hk ?_; clear hk a; intro a hk) | fail))
        refine sg hk (g_callO hk (hf := by kernel_rfl) (hc := pout_any ⟨0, m, x, y, d, e⟩ _) (h := ?_)); clear hk a; rintro _ w ⟨rfl, hS1⟩ a hk; replace hS := hS.call0 hS1; clear hS1
        (repeat' (first | (show wpListIn _ _ _ _ _ (_ :: _) _ _; first | (refine wx1 ?_; clear hk a; intro a hk) | (refine wx2 ?_ ?_ <;> (intro hp; clear hk a; intro a hk)) | (refine wx3 ?_; clear hk hS a; intro w b hS a hk) | (refine wx4 ?_; clear hk hS a; intro w hS a hk) | (refine wx5 ?_; clear hk hS a; intro w v hS a hk) | fail) | refine wx0 ?_ | (refine s_end hk ?_; clear hk a; intro a hk) | fail))
        refine done1R hk rfl (.str hS (hT := aT rfl) (hs := zT rfl)) (h := ?_)
        exact ⟨noH, rfl, (hS.nilT 3 Int).sub (.cons .here (by repeat (first | exact Sub.refl | apply Sub.under)))⟩
      · rw [show shiftP ⟨0, m, x, y, d, e⟩ dx dy dur = { unmvP (outP ⟨0, m, x, y, d, e⟩) with s := { (unmvP (outP ⟨0, m, x, y, d, e⟩)).s with m := 1, x := dx, y := dy, e := dur }, mj := 1 } from if_pos ⟨rfl, fun h => hy h.2⟩]
        refine enter Tryz.func36 rfl Tryz.ntmps36 rfl (fun a hk => ?_)
        refine wpIn_seq ?_; refine wpIn_region_lit ?_
        refine st_box hk hS ?_; clear hk hS a; intro w b1 hS a hk
        refine st_alloc hk hS ?_; clear hk hS a; intro w b2 hS a hk
        (repeat' (first | (show wpListIn _ _ _ _ _ (_ :: _) _ _; first | (refine wx1 ?_; clear hk a; intro a hk) | (refine wx2 ?_ ?_ <;> (intro hp; clear hk a; intro a hk)) | (refine wx3 ?_; clear hk hS a; intro w b hS a hk) | (refine wx4 ?_; clear hk hS a; intro w hS a hk) | (refine wx5 ?_; clear hk hS a; intro w v hS a hk) | fail) | refine wx0 ?_ | (refine s_end hk ?_; clear hk a; intro a hk) | fail))
        all_goals try (exfalso; omega)
        refine sg hk (g_callO hk (hf := by kernel_rfl) (hc := pout_any ⟨0, m, x, y, d, e⟩ _) (h := ?_)); clear hk a; rintro _ w ⟨rfl, hS1⟩ a hk; replace hS := hS.call0 hS1; clear hS1
        (repeat' (first | (show wpListIn _ _ _ _ _ (_ :: _) _ _; first | (refine wx1 ?_; clear hk a; intro a hk) | (refine wx2 ?_ ?_ <;> (intro hp; clear hk a; intro a hk)) | (refine wx3 ?_; clear hk hS a; intro w b hS a hk) | (refine wx4 ?_; clear hk hS a; intro w hS a hk) | (refine wx5 ?_; clear hk hS a; intro w v hS a hk) | fail) | refine wx0 ?_ | (refine s_end hk ?_; clear hk a; intro a hk) | fail))
        refine sg hk (g_callO hk (hf := by kernel_rfl) (hc := unmove_any (outP ⟨0, m, x, y, d, e⟩) noH _) (h := ?_)); clear hk a; rintro _ w ⟨rfl, hS1⟩ a hk; replace hS := hS.call0 hS1; clear hS1
        have hhk : (unmvP (outP ⟨0, m, x, y, d, e⟩)).hk = [] := unmv_hk _
        generalize unmvP (outP ⟨0, m, x, y, d, e⟩) = u at *
        obtain ⟨⟨k1, m1, x1, y1, d1, e1⟩, l1, j1, mj1, en1, me1, go1⟩ := u
        simp only at hhk
        subst hhk
        simp only [ouV, Hd.v] at hk
        (repeat' (first | (show wpListIn _ _ _ _ _ (_ :: _) _ _; first | (refine wx1 ?_; clear hk a; intro a hk) | (refine wx2 ?_ ?_ <;> (intro hp; clear hk a; intro a hk)) | (refine wx3 ?_; clear hk hS a; intro w b hS a hk) | (refine wx4 ?_; clear hk hS a; intro w hS a hk) | (refine wx5 ?_; clear hk hS a; intro w v hS a hk) | fail) | refine wx0 ?_ | (refine s_end hk ?_; clear hk a; intro a hk) | fail))
        refine done1R hk rfl (.str hS (hT := aT rfl) (hs := zT rfl)) (h := ?_)
        exact ⟨noH, rfl, (hS.nilT 3 Int).sub (.cons .here (by repeat (first | exact Sub.refl | apply Sub.under)))⟩
    · rw [show shiftP ⟨0, m, x, y, d, e⟩ dx dy dur = { unmvP (outP ⟨0, m, x, y, d, e⟩) with s := { (unmvP (outP ⟨0, m, x, y, d, e⟩)).s with m := 1, x := dx, y := dy, e := dur }, mj := 1 } from if_pos ⟨rfl, fun h => hx h.1⟩]
      refine enter Tryz.func36 rfl Tryz.ntmps36 rfl (fun a hk => ?_)
      refine wpIn_seq ?_; refine wpIn_region_lit ?_
      refine st_box hk hS ?_; clear hk hS a; intro w b1 hS a hk
      refine st_alloc hk hS ?_; clear hk hS a; intro w b2 hS a hk
      (repeat' (first | (show wpListIn _ _ _ _ _ (_ :: _) _ _; first | (refine wx1 ?_; clear hk a; intro a hk) | (refine wx2 ?_ ?_ <;> (intro hp; clear hk a; intro a hk)) | (refine wx3 ?_; clear hk hS a; intro w b hS a hk) | (refine wx4 ?_; clear hk hS a; intro w hS a hk) | (refine wx5 ?_; clear hk hS a; intro w v hS a hk) | fail) | refine wx0 ?_ | (refine s_end hk ?_; clear hk a; intro a hk) | fail))
      all_goals try (exfalso; omega)
      refine sg hk (g_callO hk (hf := by kernel_rfl) (hc := pout_any ⟨0, m, x, y, d, e⟩ _) (h := ?_)); clear hk a; rintro _ w ⟨rfl, hS1⟩ a hk; replace hS := hS.call0 hS1; clear hS1
      (repeat' (first | (show wpListIn _ _ _ _ _ (_ :: _) _ _; first | (refine wx1 ?_; clear hk a; intro a hk) | (refine wx2 ?_ ?_ <;> (intro hp; clear hk a; intro a hk)) | (refine wx3 ?_; clear hk hS a; intro w b hS a hk) | (refine wx4 ?_; clear hk hS a; intro w hS a hk) | (refine wx5 ?_; clear hk hS a; intro w v hS a hk) | fail) | refine wx0 ?_ | (refine s_end hk ?_; clear hk a; intro a hk) | fail))
      refine sg hk (g_callO hk (hf := by kernel_rfl) (hc := unmove_any (outP ⟨0, m, x, y, d, e⟩) noH _) (h := ?_)); clear hk a; rintro _ w ⟨rfl, hS1⟩ a hk; replace hS := hS.call0 hS1; clear hS1
      have hhk : (unmvP (outP ⟨0, m, x, y, d, e⟩)).hk = [] := unmv_hk _
      generalize unmvP (outP ⟨0, m, x, y, d, e⟩) = u at *
      obtain ⟨⟨k1, m1, x1, y1, d1, e1⟩, l1, j1, mj1, en1, me1, go1⟩ := u
      simp only at hhk
      subst hhk
      simp only [ouV, Hd.v] at hk
      (repeat' (first | (show wpListIn _ _ _ _ _ (_ :: _) _ _; first | (refine wx1 ?_; clear hk a; intro a hk) | (refine wx2 ?_ ?_ <;> (intro hp; clear hk a; intro a hk)) | (refine wx3 ?_; clear hk hS a; intro w b hS a hk) | (refine wx4 ?_; clear hk hS a; intro w hS a hk) | (refine wx5 ?_; clear hk hS a; intro w v hS a hk) | fail) | refine wx0 ?_ | (refine s_end hk ?_; clear hk a; intro a hk) | fail))
      refine done1R hk rfl (.str hS (hT := aT rfl) (hs := zT rfl)) (h := ?_)
      exact ⟨noH, rfl, (hS.nilT 3 Int).sub (.cons .here (by repeat (first | exact Sub.refl | apply Sub.under)))⟩
  · rw [show shiftP ⟨k, m, x, y, d, e⟩ dx dy dur = outP ⟨k, m, x, y, d, e⟩ from if_neg (fun h => h1 h.1)]
    refine enter Tryz.func36 rfl Tryz.ntmps36 rfl (fun a hk => ?_)
    refine wpIn_seq ?_; refine wpIn_region_lit ?_
    refine st_box hk hS ?_; clear hk hS a; intro w b1 hS a hk
    refine st_alloc hk hS ?_; clear hk hS a; intro w b2 hS a hk
    (repeat' (first | (show wpListIn _ _ _ _ _ (_ :: _) _ _; first | (refine wx1 ?_; clear hk a; intro a hk) | (refine wx2 ?_ ?_ <;> (intro hp; clear hk a; intro a hk)) | (refine wx3 ?_; clear hk hS a; intro w b hS a hk) | (refine wx4 ?_; clear hk hS a; intro w hS a hk) | (refine wx5 ?_; clear hk hS a; intro w v hS a hk) | fail) | refine wx0 ?_ | (refine s_end hk ?_; clear hk a; intro a hk) | fail))
    refine sg hk (g_callO hk (hf := by kernel_rfl) (hc := pout_any ⟨k, m, x, y, d, e⟩ _) (h := ?_)); clear hk a; rintro _ w ⟨rfl, hS1⟩ a hk; replace hS := hS.call0 hS1; clear hS1
    (repeat' (first | (show wpListIn _ _ _ _ _ (_ :: _) _ _; first | (refine wx1 ?_; clear hk a; intro a hk) | (refine wx2 ?_ ?_ <;> (intro hp; clear hk a; intro a hk)) | (refine wx3 ?_; clear hk hS a; intro w b hS a hk) | (refine wx4 ?_; clear hk hS a; intro w hS a hk) | (refine wx5 ?_; clear hk hS a; intro w v hS a hk) | fail) | refine wx0 ?_ | (refine s_end hk ?_; clear hk a; intro a hk) | fail))
    refine done1R hk rfl (.str hS (hT := aT rfl) (hs := zT rfl)) (h := ?_)
    exact ⟨noH, rfl, (hS.nilT 3 Int).sub (.cons .here (by repeat (first | exact Sub.refl | apply Sub.under)))⟩
set_option maxHeartbeats 2000000 in
theorem mframe21_any (s : PS) (B : Bs) (L : List HP) (w : World) (hS : St B L w) : Calls Tryz.prog 24 #[stV s] w (Ret (PhR B L (mframeP s))) := by
  obtain ⟨k, m, x, y, d, e⟩ := s
  show Calls Tryz.prog 24 #[.agg #[.int .i64 k, .int .i64 m, .int .i64 x, .int .i64 y, .int .i64 d, .int .i64 e]] w _
  by_cases h1 : m = 1
  · subst h1
    rw [show mframeP ⟨k, 1, x, y, d, e⟩ = { outP ⟨k, 1, x, y, d, e⟩ with s := ⟨k, 2, 0, 0, d, e⟩, mj := 2 } from rfl]
    refine enter Tryz.func24 rfl Tryz.ntmps24 rfl (fun a hk => ?_)
    refine wpIn_seq ?_; refine wpIn_region_lit ?_
    refine st_box hk hS ?_; clear hk hS a; intro w b1 hS a hk
    refine st_alloc hk hS ?_; clear hk hS a; intro w b2 hS a hk
    (repeat' (first | (show wpListIn _ _ _ _ _ (_ :: _) _ _; first | (refine wx1 ?_; clear hk a; intro a hk) | (refine wx2 ?_ ?_ <;> (intro hp; clear hk a; intro a hk)) | (refine wx3 ?_; clear hk hS a; intro w b hS a hk) | (refine wx4 ?_; clear hk hS a; intro w hS a hk) | (refine wx5 ?_; clear hk hS a; intro w v hS a hk) | fail) | refine wx0 ?_ | (refine s_end hk ?_; clear hk a; intro a hk) | fail))
    refine sg hk (g_callO hk (hf := by kernel_rfl) (hc := pout_any ⟨k, 1, x, y, d, e⟩ _) (h := ?_)); clear hk a; rintro _ w ⟨rfl, hS1⟩ a hk; replace hS := hS.call0 hS1; clear hS1
    (repeat' (first | (show wpListIn _ _ _ _ _ (_ :: _) _ _; first | (refine wx1 ?_; clear hk a; intro a hk) | (refine wx2 ?_ ?_ <;> (intro hp; clear hk a; intro a hk)) | (refine wx3 ?_; clear hk hS a; intro w b hS a hk) | (refine wx4 ?_; clear hk hS a; intro w hS a hk) | (refine wx5 ?_; clear hk hS a; intro w v hS a hk) | fail) | refine wx0 ?_ | (refine s_end hk ?_; clear hk a; intro a hk) | fail))
    refine done1R hk rfl (.str hS (hT := aT rfl) (hs := zT rfl)) (h := ?_)
    exact ⟨noH, rfl, (hS.nilT 3 Int).sub (.cons .here (by repeat (first | exact Sub.refl | apply Sub.under)))⟩
  · rw [show mframeP ⟨k, m, x, y, d, e⟩ = outP ⟨k, m, x, y, d, e⟩ from if_neg h1]
    refine enter Tryz.func24 rfl Tryz.ntmps24 rfl (fun a hk => ?_)
    refine wpIn_seq ?_; refine wpIn_region_lit ?_
    refine st_box hk hS ?_; clear hk hS a; intro w b1 hS a hk
    refine st_alloc hk hS ?_; clear hk hS a; intro w b2 hS a hk
    (repeat' (first | (show wpListIn _ _ _ _ _ (_ :: _) _ _; first | (refine wx1 ?_; clear hk a; intro a hk) | (refine wx2 ?_ ?_ <;> (intro hp; clear hk a; intro a hk)) | (refine wx3 ?_; clear hk hS a; intro w b hS a hk) | (refine wx4 ?_; clear hk hS a; intro w hS a hk) | (refine wx5 ?_; clear hk hS a; intro w v hS a hk) | fail) | refine wx0 ?_ | (refine s_end hk ?_; clear hk a; intro a hk) | fail))
    refine sg hk (g_callO hk (hf := by kernel_rfl) (hc := pout_any ⟨k, m, x, y, d, e⟩ _) (h := ?_)); clear hk a; rintro _ w ⟨rfl, hS1⟩ a hk; replace hS := hS.call0 hS1; clear hS1
    (repeat' (first | (show wpListIn _ _ _ _ _ (_ :: _) _ _; first | (refine wx1 ?_; clear hk a; intro a hk) | (refine wx2 ?_ ?_ <;> (intro hp; clear hk a; intro a hk)) | (refine wx3 ?_; clear hk hS a; intro w b hS a hk) | (refine wx4 ?_; clear hk hS a; intro w hS a hk) | (refine wx5 ?_; clear hk hS a; intro w v hS a hk) | fail) | refine wx0 ?_ | (refine s_end hk ?_; clear hk a; intro a hk) | fail))
    refine done1R hk rfl (.str hS (hT := aT rfl) (hs := zT rfl)) (h := ?_)
    exact ⟨noH, rfl, (hS.nilT 3 Int).sub (.cons .here (by repeat (first | exact Sub.refl | apply Sub.under)))⟩
set_option maxHeartbeats 2000000 in
theorem mfinish21_any (s : PS) (B : Bs) (L : List HP) (w : World) (hS : St B L w) : Calls Tryz.prog 28 #[stV s] w (Ret (PhR B L (mfinishP s))) := by
  obtain ⟨k, m, x, y, d, e⟩ := s
  show Calls Tryz.prog 28 #[.agg #[.int .i64 k, .int .i64 m, .int .i64 x, .int .i64 y, .int .i64 d, .int .i64 e]] w _
  by_cases h1 : m = 2
  · subst h1
    rw [show mfinishP ⟨k, 2, x, y, d, e⟩ = unmvP (outP ⟨k, 2, x, y, d, e⟩) from rfl]
    refine enter Tryz.func28 rfl Tryz.ntmps28 rfl (fun a hk => ?_)
    refine wpIn_seq ?_; refine wpIn_region_lit ?_
    refine st_box hk hS ?_; clear hk hS a; intro w b1 hS a hk
    refine st_alloc hk hS ?_; clear hk hS a; intro w b2 hS a hk
    (repeat' (first | (show wpListIn _ _ _ _ _ (_ :: _) _ _; first | (refine wx1 ?_; clear hk a; intro a hk) | (refine wx2 ?_ ?_ <;> (intro hp; clear hk a; intro a hk)) | (refine wx3 ?_; clear hk hS a; intro w b hS a hk) | (refine wx4 ?_; clear hk hS a; intro w hS a hk) | (refine wx5 ?_; clear hk hS a; intro w v hS a hk) | fail) | refine wx0 ?_ | (refine s_end hk ?_; clear hk a; intro a hk) | fail))
    refine sg hk (g_callO hk (hf := by kernel_rfl) (hc := pout_any ⟨k, 2, x, y, d, e⟩ _) (h := ?_)); clear hk a; rintro _ w ⟨rfl, hS1⟩ a hk; replace hS := hS.call0 hS1; clear hS1
    (repeat' (first | (show wpListIn _ _ _ _ _ (_ :: _) _ _; first | (refine wx1 ?_; clear hk a; intro a hk) | (refine wx2 ?_ ?_ <;> (intro hp; clear hk a; intro a hk)) | (refine wx3 ?_; clear hk hS a; intro w b hS a hk) | (refine wx4 ?_; clear hk hS a; intro w hS a hk) | (refine wx5 ?_; clear hk hS a; intro w v hS a hk) | fail) | refine wx0 ?_ | (refine s_end hk ?_; clear hk a; intro a hk) | fail))
    refine sg hk (g_callO hk (hf := by kernel_rfl) (hc := unmove_any (outP ⟨k, 2, x, y, d, e⟩) noH _) (h := ?_)); clear hk a; rintro _ w ⟨rfl, hS1⟩ a hk; replace hS := hS.call0 hS1; clear hS1
    (repeat' (first | (show wpListIn _ _ _ _ _ (_ :: _) _ _; first | (refine wx1 ?_; clear hk a; intro a hk) | (refine wx2 ?_ ?_ <;> (intro hp; clear hk a; intro a hk)) | (refine wx3 ?_; clear hk hS a; intro w b hS a hk) | (refine wx4 ?_; clear hk hS a; intro w hS a hk) | (refine wx5 ?_; clear hk hS a; intro w v hS a hk) | fail) | refine wx0 ?_ | (refine s_end hk ?_; clear hk a; intro a hk) | fail))
    refine done1R hk rfl (.str hS (hT := aT rfl) (hs := zT rfl)) (h := ?_)
    exact ⟨noH, rfl, (hS.nilT 3 Int).sub (.cons .here (by repeat (first | exact Sub.refl | apply Sub.under)))⟩
  · rw [show mfinishP ⟨k, m, x, y, d, e⟩ = outP ⟨k, m, x, y, d, e⟩ from if_neg h1]
    refine enter Tryz.func28 rfl Tryz.ntmps28 rfl (fun a hk => ?_)
    refine wpIn_seq ?_; refine wpIn_region_lit ?_
    refine st_box hk hS ?_; clear hk hS a; intro w b1 hS a hk
    refine st_alloc hk hS ?_; clear hk hS a; intro w b2 hS a hk
    (repeat' (first | (show wpListIn _ _ _ _ _ (_ :: _) _ _; first | (refine wx1 ?_; clear hk a; intro a hk) | (refine wx2 ?_ ?_ <;> (intro hp; clear hk a; intro a hk)) | (refine wx3 ?_; clear hk hS a; intro w b hS a hk) | (refine wx4 ?_; clear hk hS a; intro w hS a hk) | (refine wx5 ?_; clear hk hS a; intro w v hS a hk) | fail) | refine wx0 ?_ | (refine s_end hk ?_; clear hk a; intro a hk) | fail))
    refine sg hk (g_callO hk (hf := by kernel_rfl) (hc := pout_any ⟨k, m, x, y, d, e⟩ _) (h := ?_)); clear hk a; rintro _ w ⟨rfl, hS1⟩ a hk; replace hS := hS.call0 hS1; clear hS1
    (repeat' (first | (show wpListIn _ _ _ _ _ (_ :: _) _ _; first | (refine wx1 ?_; clear hk a; intro a hk) | (refine wx2 ?_ ?_ <;> (intro hp; clear hk a; intro a hk)) | (refine wx3 ?_; clear hk hS a; intro w b hS a hk) | (refine wx4 ?_; clear hk hS a; intro w hS a hk) | (refine wx5 ?_; clear hk hS a; intro w v hS a hk) | fail) | refine wx0 ?_ | (refine s_end hk ?_; clear hk a; intro a hk) | fail))
    refine done1R hk rfl (.str hS (hT := aT rfl) (hs := zT rfl)) (h := ?_)
    exact ⟨noH, rfl, (hS.nilT 3 Int).sub (.cons .here (by repeat (first | exact Sub.refl | apply Sub.under)))⟩
theorem new21_any (fresh : Bool) (w0 : World) : Calls Tryz.prog 4 #[.bool fresh] w0 (Ret fun v w => v = stV ⟨if fresh = true then 1 else 0, 0, 0, 0, 0, 0⟩ ∧ St w0 [] w) := by
  cases fresh with
  | true =>
    refine enter Tryz.func4 rfl Tryz.ntmps4 rfl (fun a hk => ?_); have hS := St.refl w0
    (repeat' (first | (show wpListIn _ _ _ _ _ (_ :: _) _ _; first | (refine wx1 ?_; clear hk a; intro a hk) | (refine wx2 ?_ ?_ <;> (intro hp; clear hk a; intro a hk)) | (refine wx3 ?_; clear hk hS a; intro w b hS a hk) | (refine wx4 ?_; clear hk hS a; intro w hS a hk) | (refine wx5 ?_; clear hk hS a; intro w v hS a hk) | fail) | refine wx0 ?_ | (refine s_end hk ?_; clear hk a; intro a hk) | fail))
    refine done1R hk rfl (.str hS (hT := aT rfl) (hs := zT rfl)) (h := ?_)
    exact ⟨rfl, hS.nil⟩
  | false =>
    refine enter Tryz.func4 rfl Tryz.ntmps4 rfl (fun a hk => ?_); have hS := St.refl w0
    (repeat' (first | (show wpListIn _ _ _ _ _ (_ :: _) _ _; first | (refine wx1 ?_; clear hk a; intro a hk) | (refine wx2 ?_ ?_ <;> (intro hp; clear hk a; intro a hk)) | (refine wx3 ?_; clear hk hS a; intro w b hS a hk) | (refine wx4 ?_; clear hk hS a; intro w hS a hk) | (refine wx5 ?_; clear hk hS a; intro w v hS a hk) | fail) | refine wx0 ?_ | (refine s_end hk ?_; clear hk a; intro a hk) | fail))
    refine done1R hk rfl (.str hS (hT := aT rfl) (hs := zT rfl)) (h := ?_)
    exact ⟨rfl, hS.nil⟩
set_option maxHeartbeats 4000000 in
theorem do21_any (s : PS) (c dur dx dy : Int) (once : Bool) (B : Bs) (L : List HP) (w : World) (hS : St B L w) : Calls Tryz.prog 11 #[stV s, .agg #[.int .i64 c, .int .i64 dur, .int .i64 dx, .int .i64 dy, .bool once]] w (Ret (PhR B L (callP s c dur dx dy once))) := by
  obtain ⟨k, m, x, y, d, e⟩ := s
  have hR : ∃ o, callP ⟨k, m, x, y, d, e⟩ c dur dx dy once = o := ⟨_, rfl⟩
  obtain ⟨o, hR⟩ := hR
  rw [hR]
  unfold callP at hR
  show Calls Tryz.prog 11 #[.agg #[.int .i64 k, .int .i64 m, .int .i64 x, .int .i64 y, .int .i64 d, .int .i64 e], .agg #[.int .i64 c, .int .i64 dur, .int .i64 dx, .int .i64 dy, .bool once]] w _
  by_cases c0 : c = 0
  · rw [if_pos c0] at hR
    subst c0
    refine enter Tryz.func11 rfl Tryz.ntmps11 rfl (fun a hk => ?_)
    refine wpIn_seq ?_; refine wpIn_region_lit ?_
    refine st_box hk hS ?_; clear hk hS a; intro w b1 hS a hk
    refine st_box hk hS ?_; clear hk hS a; intro w b3 hS a hk
    refine st_alloc hk hS ?_; clear hk hS a; intro w b2 hS a hk
    (repeat' (first | (show wpListIn _ _ _ _ _ (_ :: _) _ _; first | (refine wx1 ?_; clear hk a; intro a hk) | (refine wx2 ?_ ?_ <;> (intro hp; clear hk a; intro a hk)) | (refine wx3 ?_; clear hk hS a; intro w b hS a hk) | (refine wx4 ?_; clear hk hS a; intro w hS a hk) | (refine wx5 ?_; clear hk hS a; intro w v hS a hk) | fail) | refine wx0 ?_ | (refine s_end hk ?_; clear hk a; intro a hk) | fail))
    refine sg hk (g_callO hk (hf := by kernel_rfl) (hc := enter21_any ⟨k, m, x, y, d, e⟩ dur once _ _ _ hS) (h := ?_)); clear hk hS a; intro vr w hS a hk
    rw [hR] at hS
    obtain ⟨⟨pa, pn, pc⟩, rfl, hS1⟩ := hS
    have hS := hS1
    clear hS1
    obtain ⟨⟨k1, m1, x1, y1, d1, e1⟩, l1, j1, mj1, en1, me1, go1⟩ := o
    simp only [ouV, Hd.v] at hk
    (repeat' (first | (show wpListIn _ _ _ _ _ (_ :: _) _ _; first | (refine wx1 ?_; clear hk a; intro a hk) | (refine wx2 ?_ ?_ <;> (intro hp; clear hk a; intro a hk)) | (refine wx3 ?_; clear hk hS a; intro w b hS a hk) | (refine wx4 ?_; clear hk hS a; intro w hS a hk) | (refine wx5 ?_; clear hk hS a; intro w v hS a hk) | fail) | refine wx0 ?_ | (refine s_end hk ?_; clear hk a; intro a hk) | fail))
    refine done1R hk rfl (.str hS (hT := aT rfl) (hs := zT rfl)) (h := ?_)
    exact ⟨⟨pa, pn, pc⟩, rfl, hS.sub (.cons (by repeat (first | exact At.here | apply At.there)) (by repeat (first | exact Sub.refl | apply Sub.under)))⟩
  rw [if_neg c0] at hR
  by_cases c1 : c = 1
  · rw [if_pos c1] at hR
    subst c1
    refine enter Tryz.func11 rfl Tryz.ntmps11 rfl (fun a hk => ?_)
    refine wpIn_seq ?_; refine wpIn_region_lit ?_
    refine st_box hk hS ?_; clear hk hS a; intro w b1 hS a hk
    refine st_box hk hS ?_; clear hk hS a; intro w b3 hS a hk
    refine st_alloc hk hS ?_; clear hk hS a; intro w b2 hS a hk
    (repeat' (first | (show wpListIn _ _ _ _ _ (_ :: _) _ _; first | (refine wx1 ?_; clear hk a; intro a hk) | (refine wx2 ?_ ?_ <;> (intro hp; clear hk a; intro a hk)) | (refine wx3 ?_; clear hk hS a; intro w b hS a hk) | (refine wx4 ?_; clear hk hS a; intro w hS a hk) | (refine wx5 ?_; clear hk hS a; intro w v hS a hk) | fail) | refine wx0 ?_ | (refine s_end hk ?_; clear hk a; intro a hk) | fail))
    refine sg hk (g_callO hk (hf := by kernel_rfl) (hc := leave21_any ⟨k, m, x, y, d, e⟩ dur once _ _ _ hS) (h := ?_)); clear hk hS a; intro vr w hS a hk
    rw [hR] at hS
    obtain ⟨⟨pa, pn, pc⟩, rfl, hS1⟩ := hS
    have hS := hS1
    clear hS1
    obtain ⟨⟨k1, m1, x1, y1, d1, e1⟩, l1, j1, mj1, en1, me1, go1⟩ := o
    simp only [ouV, Hd.v] at hk
    (repeat' (first | (show wpListIn _ _ _ _ _ (_ :: _) _ _; first | (refine wx1 ?_; clear hk a; intro a hk) | (refine wx2 ?_ ?_ <;> (intro hp; clear hk a; intro a hk)) | (refine wx3 ?_; clear hk hS a; intro w b hS a hk) | (refine wx4 ?_; clear hk hS a; intro w hS a hk) | (refine wx5 ?_; clear hk hS a; intro w v hS a hk) | fail) | refine wx0 ?_ | (refine s_end hk ?_; clear hk a; intro a hk) | fail))
    refine done1R hk rfl (.str hS (hT := aT rfl) (hs := zT rfl)) (h := ?_)
    exact ⟨⟨pa, pn, pc⟩, rfl, hS.sub (.cons (by repeat (first | exact At.here | apply At.there)) (by repeat (first | exact Sub.refl | apply Sub.under)))⟩
  rw [if_neg c1] at hR
  by_cases c2 : c = 2
  · rw [if_pos c2] at hR
    subst c2
    refine enter Tryz.func11 rfl Tryz.ntmps11 rfl (fun a hk => ?_)
    refine wpIn_seq ?_; refine wpIn_region_lit ?_
    refine st_box hk hS ?_; clear hk hS a; intro w b1 hS a hk
    refine st_box hk hS ?_; clear hk hS a; intro w b3 hS a hk
    refine st_alloc hk hS ?_; clear hk hS a; intro w b2 hS a hk
    (repeat' (first | (show wpListIn _ _ _ _ _ (_ :: _) _ _; first | (refine wx1 ?_; clear hk a; intro a hk) | (refine wx2 ?_ ?_ <;> (intro hp; clear hk a; intro a hk)) | (refine wx3 ?_; clear hk hS a; intro w b hS a hk) | (refine wx4 ?_; clear hk hS a; intro w hS a hk) | (refine wx5 ?_; clear hk hS a; intro w v hS a hk) | fail) | refine wx0 ?_ | (refine s_end hk ?_; clear hk a; intro a hk) | fail))
    refine sg hk (g_callO hk (hf := by kernel_rfl) (hc := hold21_any ⟨k, m, x, y, d, e⟩ _ _ _ hS) (h := ?_)); clear hk hS a; intro vr w hS a hk
    rw [hR] at hS
    obtain ⟨⟨pa, pn, pc⟩, rfl, hS1⟩ := hS
    have hS := hS1
    clear hS1
    obtain ⟨⟨k1, m1, x1, y1, d1, e1⟩, l1, j1, mj1, en1, me1, go1⟩ := o
    simp only [ouV, Hd.v] at hk
    (repeat' (first | (show wpListIn _ _ _ _ _ (_ :: _) _ _; first | (refine wx1 ?_; clear hk a; intro a hk) | (refine wx2 ?_ ?_ <;> (intro hp; clear hk a; intro a hk)) | (refine wx3 ?_; clear hk hS a; intro w b hS a hk) | (refine wx4 ?_; clear hk hS a; intro w hS a hk) | (refine wx5 ?_; clear hk hS a; intro w v hS a hk) | fail) | refine wx0 ?_ | (refine s_end hk ?_; clear hk a; intro a hk) | fail))
    refine done1R hk rfl (.str hS (hT := aT rfl) (hs := zT rfl)) (h := ?_)
    exact ⟨⟨pa, pn, pc⟩, rfl, hS.sub (.cons (by repeat (first | exact At.here | apply At.there)) (by repeat (first | exact Sub.refl | apply Sub.under)))⟩
  rw [if_neg c2] at hR
  by_cases c3 : c = 3
  · rw [if_pos c3] at hR
    subst c3
    refine enter Tryz.func11 rfl Tryz.ntmps11 rfl (fun a hk => ?_)
    refine wpIn_seq ?_; refine wpIn_region_lit ?_
    refine st_box hk hS ?_; clear hk hS a; intro w b1 hS a hk
    refine st_box hk hS ?_; clear hk hS a; intro w b3 hS a hk
    refine st_alloc hk hS ?_; clear hk hS a; intro w b2 hS a hk
    (repeat' (first | (show wpListIn _ _ _ _ _ (_ :: _) _ _; first | (refine wx1 ?_; clear hk a; intro a hk) | (refine wx2 ?_ ?_ <;> (intro hp; clear hk a; intro a hk)) | (refine wx3 ?_; clear hk hS a; intro w b hS a hk) | (refine wx4 ?_; clear hk hS a; intro w hS a hk) | (refine wx5 ?_; clear hk hS a; intro w v hS a hk) | fail) | refine wx0 ?_ | (refine s_end hk ?_; clear hk a; intro a hk) | fail))
    refine sg hk (g_callO hk (hf := by kernel_rfl) (hc := return21_any ⟨k, m, x, y, d, e⟩ _ _ _ hS) (h := ?_)); clear hk hS a; intro vr w hS a hk
    rw [hR] at hS
    obtain ⟨⟨pa, pn, pc⟩, rfl, hS1⟩ := hS
    have hS := hS1
    clear hS1
    obtain ⟨⟨k1, m1, x1, y1, d1, e1⟩, l1, j1, mj1, en1, me1, go1⟩ := o
    simp only [ouV, Hd.v] at hk
    (repeat' (first | (show wpListIn _ _ _ _ _ (_ :: _) _ _; first | (refine wx1 ?_; clear hk a; intro a hk) | (refine wx2 ?_ ?_ <;> (intro hp; clear hk a; intro a hk)) | (refine wx3 ?_; clear hk hS a; intro w b hS a hk) | (refine wx4 ?_; clear hk hS a; intro w hS a hk) | (refine wx5 ?_; clear hk hS a; intro w v hS a hk) | fail) | refine wx0 ?_ | (refine s_end hk ?_; clear hk a; intro a hk) | fail))
    refine done1R hk rfl (.str hS (hT := aT rfl) (hs := zT rfl)) (h := ?_)
    exact ⟨⟨pa, pn, pc⟩, rfl, hS.sub (.cons (by repeat (first | exact At.here | apply At.there)) (by repeat (first | exact Sub.refl | apply Sub.under)))⟩
  rw [if_neg c3] at hR
  by_cases c4 : c = 4
  · rw [if_pos c4] at hR
    subst c4
    refine enter Tryz.func11 rfl Tryz.ntmps11 rfl (fun a hk => ?_)
    refine wpIn_seq ?_; refine wpIn_region_lit ?_
    refine st_box hk hS ?_; clear hk hS a; intro w b1 hS a hk
    refine st_box hk hS ?_; clear hk hS a; intro w b3 hS a hk
    refine st_alloc hk hS ?_; clear hk hS a; intro w b2 hS a hk
    (repeat' (first | (show wpListIn _ _ _ _ _ (_ :: _) _ _; first | (refine wx1 ?_; clear hk a; intro a hk) | (refine wx2 ?_ ?_ <;> (intro hp; clear hk a; intro a hk)) | (refine wx3 ?_; clear hk hS a; intro w b hS a hk) | (refine wx4 ?_; clear hk hS a; intro w hS a hk) | (refine wx5 ?_; clear hk hS a; intro w v hS a hk) | fail) | refine wx0 ?_ | (refine s_end hk ?_; clear hk a; intro a hk) | fail))
    refine sg hk (g_callO hk (hf := by kernel_rfl) (hc := frame21_any ⟨k, m, x, y, d, e⟩ _ _ _ hS) (h := ?_)); clear hk hS a; intro vr w hS a hk
    rw [hR] at hS
    obtain ⟨⟨pa, pn, pc⟩, rfl, hS1⟩ := hS
    have hS := hS1
    clear hS1
    obtain ⟨⟨k1, m1, x1, y1, d1, e1⟩, l1, j1, mj1, en1, me1, go1⟩ := o
    simp only [ouV, Hd.v] at hk
    (repeat' (first | (show wpListIn _ _ _ _ _ (_ :: _) _ _; first | (refine wx1 ?_; clear hk a; intro a hk) | (refine wx2 ?_ ?_ <;> (intro hp; clear hk a; intro a hk)) | (refine wx3 ?_; clear hk hS a; intro w b hS a hk) | (refine wx4 ?_; clear hk hS a; intro w hS a hk) | (refine wx5 ?_; clear hk hS a; intro w v hS a hk) | fail) | refine wx0 ?_ | (refine s_end hk ?_; clear hk a; intro a hk) | fail))
    refine done1R hk rfl (.str hS (hT := aT rfl) (hs := zT rfl)) (h := ?_)
    exact ⟨⟨pa, pn, pc⟩, rfl, hS.sub (.cons (by repeat (first | exact At.here | apply At.there)) (by repeat (first | exact Sub.refl | apply Sub.under)))⟩
  rw [if_neg c4] at hR
  by_cases c5 : c = 5
  · rw [if_pos c5] at hR
    subst c5
    refine enter Tryz.func11 rfl Tryz.ntmps11 rfl (fun a hk => ?_)
    refine wpIn_seq ?_; refine wpIn_region_lit ?_
    refine st_box hk hS ?_; clear hk hS a; intro w b1 hS a hk
    refine st_box hk hS ?_; clear hk hS a; intro w b3 hS a hk
    refine st_alloc hk hS ?_; clear hk hS a; intro w b2 hS a hk
    (repeat' (first | (show wpListIn _ _ _ _ _ (_ :: _) _ _; first | (refine wx1 ?_; clear hk a; intro a hk) | (refine wx2 ?_ ?_ <;> (intro hp; clear hk a; intro a hk)) | (refine wx3 ?_; clear hk hS a; intro w b hS a hk) | (refine wx4 ?_; clear hk hS a; intro w hS a hk) | (refine wx5 ?_; clear hk hS a; intro w v hS a hk) | fail) | refine wx0 ?_ | (refine s_end hk ?_; clear hk a; intro a hk) | fail))
    refine sg hk (g_callO hk (hf := by kernel_rfl) (hc := finish21_any ⟨k, m, x, y, d, e⟩ _ _ _ hS) (h := ?_)); clear hk hS a; intro vr w hS a hk
    rw [hR] at hS
    obtain ⟨⟨pa, pn, pc⟩, rfl, hS1⟩ := hS
    have hS := hS1
    clear hS1
    obtain ⟨⟨k1, m1, x1, y1, d1, e1⟩, l1, j1, mj1, en1, me1, go1⟩ := o
    simp only [ouV, Hd.v] at hk
    (repeat' (first | (show wpListIn _ _ _ _ _ (_ :: _) _ _; first | (refine wx1 ?_; clear hk a; intro a hk) | (refine wx2 ?_ ?_ <;> (intro hp; clear hk a; intro a hk)) | (refine wx3 ?_; clear hk hS a; intro w b hS a hk) | (refine wx4 ?_; clear hk hS a; intro w hS a hk) | (refine wx5 ?_; clear hk hS a; intro w v hS a hk) | fail) | refine wx0 ?_ | (refine s_end hk ?_; clear hk a; intro a hk) | fail))
    refine done1R hk rfl (.str hS (hT := aT rfl) (hs := zT rfl)) (h := ?_)
    exact ⟨⟨pa, pn, pc⟩, rfl, hS.sub (.cons (by repeat (first | exact At.here | apply At.there)) (by repeat (first | exact Sub.refl | apply Sub.under)))⟩
  rw [if_neg c5] at hR
  by_cases c6 : c = 6
  · rw [if_pos c6] at hR
    subst c6
    refine enter Tryz.func11 rfl Tryz.ntmps11 rfl (fun a hk => ?_)
    refine wpIn_seq ?_; refine wpIn_region_lit ?_
    refine st_box hk hS ?_; clear hk hS a; intro w b1 hS a hk
    refine st_box hk hS ?_; clear hk hS a; intro w b3 hS a hk
    refine st_alloc hk hS ?_; clear hk hS a; intro w b2 hS a hk
    (repeat' (first | (show wpListIn _ _ _ _ _ (_ :: _) _ _; first | (refine wx1 ?_; clear hk a; intro a hk) | (refine wx2 ?_ ?_ <;> (intro hp; clear hk a; intro a hk)) | (refine wx3 ?_; clear hk hS a; intro w b hS a hk) | (refine wx4 ?_; clear hk hS a; intro w hS a hk) | (refine wx5 ?_; clear hk hS a; intro w v hS a hk) | fail) | refine wx0 ?_ | (refine s_end hk ?_; clear hk a; intro a hk) | fail))
    refine sg hk (g_callO hk (hf := by kernel_rfl) (hc := cancel21_any ⟨k, m, x, y, d, e⟩ _ _ _ hS) (h := ?_)); clear hk hS a; intro vr w hS a hk
    rw [hR] at hS
    obtain ⟨⟨pa, pn, pc⟩, rfl, hS1⟩ := hS
    have hS := hS1
    clear hS1
    obtain ⟨⟨k1, m1, x1, y1, d1, e1⟩, l1, j1, mj1, en1, me1, go1⟩ := o
    simp only [ouV, Hd.v] at hk
    (repeat' (first | (show wpListIn _ _ _ _ _ (_ :: _) _ _; first | (refine wx1 ?_; clear hk a; intro a hk) | (refine wx2 ?_ ?_ <;> (intro hp; clear hk a; intro a hk)) | (refine wx3 ?_; clear hk hS a; intro w b hS a hk) | (refine wx4 ?_; clear hk hS a; intro w hS a hk) | (refine wx5 ?_; clear hk hS a; intro w v hS a hk) | fail) | refine wx0 ?_ | (refine s_end hk ?_; clear hk a; intro a hk) | fail))
    refine done1R hk rfl (.str hS (hT := aT rfl) (hs := zT rfl)) (h := ?_)
    exact ⟨⟨pa, pn, pc⟩, rfl, hS.sub (.cons (by repeat (first | exact At.here | apply At.there)) (by repeat (first | exact Sub.refl | apply Sub.under)))⟩
  rw [if_neg c6] at hR
  by_cases c7 : c = 7
  · rw [if_pos c7] at hR
    subst c7
    refine enter Tryz.func11 rfl Tryz.ntmps11 rfl (fun a hk => ?_)
    refine wpIn_seq ?_; refine wpIn_region_lit ?_
    refine st_box hk hS ?_; clear hk hS a; intro w b1 hS a hk
    refine st_box hk hS ?_; clear hk hS a; intro w b3 hS a hk
    refine st_alloc hk hS ?_; clear hk hS a; intro w b2 hS a hk
    (repeat' (first | (show wpListIn _ _ _ _ _ (_ :: _) _ _; first | (refine wx1 ?_; clear hk a; intro a hk) | (refine wx2 ?_ ?_ <;> (intro hp; clear hk a; intro a hk)) | (refine wx3 ?_; clear hk hS a; intro w b hS a hk) | (refine wx4 ?_; clear hk hS a; intro w hS a hk) | (refine wx5 ?_; clear hk hS a; intro w v hS a hk) | fail) | refine wx0 ?_ | (refine s_end hk ?_; clear hk a; intro a hk) | fail))
    refine sg hk (g_callO hk (hf := by kernel_rfl) (hc := settle21_any ⟨k, m, x, y, d, e⟩ _ _ _ hS) (h := ?_)); clear hk hS a; intro vr w hS a hk
    rw [hR] at hS
    obtain ⟨⟨pa, pn, pc⟩, rfl, hS1⟩ := hS
    have hS := hS1
    clear hS1
    obtain ⟨⟨k1, m1, x1, y1, d1, e1⟩, l1, j1, mj1, en1, me1, go1⟩ := o
    simp only [ouV, Hd.v] at hk
    (repeat' (first | (show wpListIn _ _ _ _ _ (_ :: _) _ _; first | (refine wx1 ?_; clear hk a; intro a hk) | (refine wx2 ?_ ?_ <;> (intro hp; clear hk a; intro a hk)) | (refine wx3 ?_; clear hk hS a; intro w b hS a hk) | (refine wx4 ?_; clear hk hS a; intro w hS a hk) | (refine wx5 ?_; clear hk hS a; intro w v hS a hk) | fail) | refine wx0 ?_ | (refine s_end hk ?_; clear hk a; intro a hk) | fail))
    refine done1R hk rfl (.str hS (hT := aT rfl) (hs := zT rfl)) (h := ?_)
    exact ⟨⟨pa, pn, pc⟩, rfl, hS.sub (.cons (by repeat (first | exact At.here | apply At.there)) (by repeat (first | exact Sub.refl | apply Sub.under)))⟩
  rw [if_neg c7] at hR
  by_cases c8 : c = 8
  · rw [if_pos c8] at hR
    subst c8
    refine enter Tryz.func11 rfl Tryz.ntmps11 rfl (fun a hk => ?_)
    refine wpIn_seq ?_; refine wpIn_region_lit ?_
    refine st_box hk hS ?_; clear hk hS a; intro w b1 hS a hk
    refine st_box hk hS ?_; clear hk hS a; intro w b3 hS a hk
    refine st_alloc hk hS ?_; clear hk hS a; intro w b2 hS a hk
    (repeat' (first | (show wpListIn _ _ _ _ _ (_ :: _) _ _; first | (refine wx1 ?_; clear hk a; intro a hk) | (refine wx2 ?_ ?_ <;> (intro hp; clear hk a; intro a hk)) | (refine wx3 ?_; clear hk hS a; intro w b hS a hk) | (refine wx4 ?_; clear hk hS a; intro w hS a hk) | (refine wx5 ?_; clear hk hS a; intro w v hS a hk) | fail) | refine wx0 ?_ | (refine s_end hk ?_; clear hk a; intro a hk) | fail))
    refine sg hk (g_callO hk (hf := by kernel_rfl) (hc := shift21_any ⟨k, m, x, y, d, e⟩ dx dy dur _ _ _ hS) (h := ?_)); clear hk hS a; intro vr w hS a hk
    rw [hR] at hS
    obtain ⟨⟨pa, pn, pc⟩, rfl, hS1⟩ := hS
    have hS := hS1
    clear hS1
    obtain ⟨⟨k1, m1, x1, y1, d1, e1⟩, l1, j1, mj1, en1, me1, go1⟩ := o
    simp only [ouV, Hd.v] at hk
    (repeat' (first | (show wpListIn _ _ _ _ _ (_ :: _) _ _; first | (refine wx1 ?_; clear hk a; intro a hk) | (refine wx2 ?_ ?_ <;> (intro hp; clear hk a; intro a hk)) | (refine wx3 ?_; clear hk hS a; intro w b hS a hk) | (refine wx4 ?_; clear hk hS a; intro w hS a hk) | (refine wx5 ?_; clear hk hS a; intro w v hS a hk) | fail) | refine wx0 ?_ | (refine s_end hk ?_; clear hk a; intro a hk) | fail))
    refine done1R hk rfl (.str hS (hT := aT rfl) (hs := zT rfl)) (h := ?_)
    exact ⟨⟨pa, pn, pc⟩, rfl, hS.sub (.cons (by repeat (first | exact At.here | apply At.there)) (by repeat (first | exact Sub.refl | apply Sub.under)))⟩
  rw [if_neg c8] at hR
  by_cases c9 : c = 9
  · rw [if_pos c9] at hR
    subst c9
    refine enter Tryz.func11 rfl Tryz.ntmps11 rfl (fun a hk => ?_)
    refine wpIn_seq ?_; refine wpIn_region_lit ?_
    refine st_box hk hS ?_; clear hk hS a; intro w b1 hS a hk
    refine st_box hk hS ?_; clear hk hS a; intro w b3 hS a hk
    refine st_alloc hk hS ?_; clear hk hS a; intro w b2 hS a hk
    (repeat' (first | (show wpListIn _ _ _ _ _ (_ :: _) _ _; first | (refine wx1 ?_; clear hk a; intro a hk) | (refine wx2 ?_ ?_ <;> (intro hp; clear hk a; intro a hk)) | (refine wx3 ?_; clear hk hS a; intro w b hS a hk) | (refine wx4 ?_; clear hk hS a; intro w hS a hk) | (refine wx5 ?_; clear hk hS a; intro w v hS a hk) | fail) | refine wx0 ?_ | (refine s_end hk ?_; clear hk a; intro a hk) | fail))
    refine sg hk (g_callO hk (hf := by kernel_rfl) (hc := mframe21_any ⟨k, m, x, y, d, e⟩ _ _ _ hS) (h := ?_)); clear hk hS a; intro vr w hS a hk
    rw [hR] at hS
    obtain ⟨⟨pa, pn, pc⟩, rfl, hS1⟩ := hS
    have hS := hS1
    clear hS1
    obtain ⟨⟨k1, m1, x1, y1, d1, e1⟩, l1, j1, mj1, en1, me1, go1⟩ := o
    simp only [ouV, Hd.v] at hk
    (repeat' (first | (show wpListIn _ _ _ _ _ (_ :: _) _ _; first | (refine wx1 ?_; clear hk a; intro a hk) | (refine wx2 ?_ ?_ <;> (intro hp; clear hk a; intro a hk)) | (refine wx3 ?_; clear hk hS a; intro w b hS a hk) | (refine wx4 ?_; clear hk hS a; intro w hS a hk) | (refine wx5 ?_; clear hk hS a; intro w v hS a hk) | fail) | refine wx0 ?_ | (refine s_end hk ?_; clear hk a; intro a hk) | fail))
    refine done1R hk rfl (.str hS (hT := aT rfl) (hs := zT rfl)) (h := ?_)
    exact ⟨⟨pa, pn, pc⟩, rfl, hS.sub (.cons (by repeat (first | exact At.here | apply At.there)) (by repeat (first | exact Sub.refl | apply Sub.under)))⟩
  rw [if_neg c9] at hR
  refine enter Tryz.func11 rfl Tryz.ntmps11 rfl (fun a hk => ?_)
  refine wpIn_seq ?_; refine wpIn_region_lit ?_
  refine st_box hk hS ?_; clear hk hS a; intro w b1 hS a hk
  refine st_box hk hS ?_; clear hk hS a; intro w b3 hS a hk
  refine st_alloc hk hS ?_; clear hk hS a; intro w b2 hS a hk
  (repeat' (first | (show wpListIn _ _ _ _ _ (_ :: _) _ _; first | (refine wx1 ?_; clear hk a; intro a hk) | (refine wx2 ?_ ?_ <;> (intro hp; clear hk a; intro a hk)) | (refine wx3 ?_; clear hk hS a; intro w b hS a hk) | (refine wx4 ?_; clear hk hS a; intro w hS a hk) | (refine wx5 ?_; clear hk hS a; intro w v hS a hk) | fail) | refine wx0 ?_ | (refine s_end hk ?_; clear hk a; intro a hk) | fail))
  refine sg hk (g_callO hk (hf := by kernel_rfl) (hc := mfinish21_any ⟨k, m, x, y, d, e⟩ _ _ _ hS) (h := ?_)); clear hk hS a; intro vr w hS a hk
  rw [hR] at hS
  obtain ⟨⟨pa, pn, pc⟩, rfl, hS1⟩ := hS
  have hS := hS1
  clear hS1
  obtain ⟨⟨k1, m1, x1, y1, d1, e1⟩, l1, j1, mj1, en1, me1, go1⟩ := o
  simp only [ouV, Hd.v] at hk
  (repeat' (first | (show wpListIn _ _ _ _ _ (_ :: _) _ _; first | (refine wx1 ?_; clear hk a; intro a hk) | (refine wx2 ?_ ?_ <;> (intro hp; clear hk a; intro a hk)) | (refine wx3 ?_; clear hk hS a; intro w b hS a hk) | (refine wx4 ?_; clear hk hS a; intro w hS a hk) | (refine wx5 ?_; clear hk hS a; intro w v hS a hk) | fail) | refine wx0 ?_ | (refine s_end hk ?_; clear hk a; intro a hk) | fail))
  refine done1R hk rfl (.str hS (hT := aT rfl) (hs := zT rfl)) (h := ?_)
  exact ⟨⟨pa, pn, pc⟩, rfl, hS.sub (.cons (by repeat (first | exact At.here | apply At.there)) (by repeat (first | exact Sub.refl | apply Sub.under)))⟩
end Go.Proofs.YthodcfdgahfniaaGreat
