/- Layer 20: looks: which may be, how each is marked. Layer 3: a list is the same as itself. Layer 4: names with values, of both kinds, are set. Layer 20: rows of texts, one behind the other. -/
import Derived.Test.YtakejjfmbgbedaaH13
import Derived.Test.YtakejjfmbgbedaaH14
import Derived.Test.YtakejjfmbgbedaaH12
import Derived.Test.YtakejjfmbgbedaaH10
namespace Go.Proofs.Ytakejjfmbgbedaa
open Go.RowKit
set_option maxRecDepth 100000
attribute [local irreducible] Go.Code.wpIn Go.wpListIn Go.Calls Gives Go.Exit.then Go.Exit.inBlock Done ObxE

def in32 (x : Int) : Prop := -2147483648 ≤ x ∧ x ≤ 2147483647
instance (x : Int) : Decidable (in32 x) := by unfold in32; infer_instance
def mayL (k m x y : Int) : Bool := decide (0 ≤ k ∧ k ≤ 6 ∧ 0 ≤ m ∧ m ≤ 2 ∧ (m = 0 ∨ k = 0) ∧ ((m = 1 ∧ (-2147483648 ≤ x ∧ x ≤ 2147483647) ∧ (-2147483648 ≤ y ∧ y ≤ 2147483647)) ∨ (m ≠ 1 ∧ x = 0 ∧ y = 0)))
def ghoL (k : Int) : Bool := decide (4 ≤ k ∧ k ≤ 6)
def entL (k : Int) : Bool := decide (k = 2 ∨ k = 3)
def leaL (k : Int) : Bool := decide (k = 5 ∨ k = 6)
def mkL (k : Int) : List ByteArray := if k = 1 then [⟨#[116, 45, 119, 97, 105, 116]⟩] else if k = 2 then [⟨#[116, 45, 101, 110, 116, 101, 114, 45, 102, 114, 111, 109]⟩, ⟨#[116, 45, 101, 110, 116, 101, 114, 45, 97, 99, 116, 105, 118, 101]⟩] else if k = 3 then [⟨#[116, 45, 101, 110, 116, 101, 114, 45, 97, 99, 116, 105, 118, 101]⟩, ⟨#[116, 45, 101, 110, 116, 101, 114, 45, 116, 111]⟩] else if k = 4 then [⟨#[116, 45, 104, 111, 108, 100]⟩] else if k = 5 then [⟨#[116, 45, 108, 101, 97, 118, 101, 45, 102, 114, 111, 109]⟩, ⟨#[116, 45, 108, 101, 97, 118, 101, 45, 97, 99, 116, 105, 118, 101]⟩] else if k = 6 then [⟨#[116, 45, 108, 101, 97, 118, 101, 45, 97, 99, 116, 105, 118, 101]⟩, ⟨#[116, 45, 108, 101, 97, 118, 101, 45, 116, 111]⟩] else []
def clsL (k m : Int) : List ByteArray := mkL k ++ (if m = 0 then [] else [⟨#[116, 45, 109, 111, 118, 101]⟩])

theorem sat_any (p : Int) (w0 : World) : Calls Try.prog 39 #[.int .i64 p] w0 (Ret fun v w => v = .int .i64 (max (-2147483648) (min p 2147483647)) ∧ St w0 [] w) := by
  refine enter Try.func39 rfl Try.ntmps39 rfl (fun a hk => ?_); have hS := St.refl w0
  (repeat' (first | (show wpListIn _ _ _ _ _ (_ :: _) _ _; first | (refine wx1 ?_; clear hk a; intro a hk) | (refine wx2 ?_ ?_ <;> (intro hp; clear hk a; intro a hk)) | (refine wx3 ?_; clear hk hS a; intro w b hS a hk) | (refine wx4 ?_; clear hk hS a; intro w hS a hk) | (refine wx5 ?_; clear hk hS a; intro w v hS a hk) | fail) | refine wx0 ?_ | (refine s_end hk ?_; clear hk a; intro a hk) | fail))
  exact done1 hk (h := ⟨rfl, hS.nil⟩)
set_option maxHeartbeats 1000000 in
theorem may_any (k m x y : Int) (w0 : World) : Calls Try.prog 13 #[.agg #[.int .i64 k, .int .i64 m, .int .i64 x, .int .i64 y]] w0 (Ret fun v w => v = .bool (mayL k m x y) ∧ St w0 [] w) := by
  refine enter Try.func13 rfl Try.ntmps13 rfl (fun a hk => ?_); have hS := St.refl w0
  (repeat' (first | (show wpListIn _ _ _ _ _ (_ :: _) _ _; first | (refine wx1 ?_; clear hk a; intro a hk) | (refine wx2 ?_ ?_ <;> (intro hp; clear hk a; intro a hk)) | (refine wx3 ?_; clear hk hS a; intro w b hS a hk) | (refine wx4 ?_; clear hk hS a; intro w hS a hk) | (refine wx5 ?_; clear hk hS a; intro w v hS a hk) | fail) | refine wx0 ?_ | (refine s_end hk ?_; clear hk a; intro a hk) | fail))
  all_goals try exact done1 hk (h := ⟨by unfold mayL; first | rw [decide_eq_true (by omega)] | rw [decide_eq_false (by omega)], hS.nil⟩)
  all_goals (
    refine wp_drawn 15 mixed (by kernel_rfl) hk hS ?_; clear hk hS a
    (repeat' (first | (show ObxE _ _ _ _ _ _ _ _ _ (_ :: _) _ _ _; first | refine ox1 ?_ | (refine ox2 ?_ ?_ <;> intro hp) | fail) | fail)))
  all_goals (
    refine' obe_val (fun us a w hk hd hS => ?_) ?_; rotate_left; focus (have hk := Kn.vw hk (by repeat (first | exact VW.nil | apply VW.val rfl | apply VW.base rfl rfl | apply VW.res rfl | apply VW.upd rfl | apply VW.cpy rfl | apply VW.dep rfl | apply VW.fn rfl | apply VW.lnd rfl | apply VW.tak rfl)); exact g_callO hk (hf := by kernel_rfl) (hc := sat_any x _) (h := fun _ _ h => h))
    (repeat' (first | (show ObxE _ _ _ _ _ _ _ _ _ (_ :: _) _ _ _; first | refine ox1 ?_ | (refine ox2 ?_ ?_ <;> intro hp) | fail) | fail)))
  · refine' obe_val (fun us a w hk hd hS => ?_) ?_; rotate_left; focus (have hk := Kn.vw hk (by repeat (first | exact VW.nil | apply VW.val rfl | apply VW.base rfl rfl | apply VW.res rfl | apply VW.upd rfl | apply VW.cpy rfl | apply VW.dep rfl | apply VW.fn rfl | apply VW.lnd rfl | apply VW.tak rfl)); exact g_callO hk (hf := by kernel_rfl) (hc := sat_any y _) (h := fun _ _ h => h))
    (repeat' (first | (show ObxE _ _ _ _ _ _ _ _ _ (_ :: _) _ _ _; first | refine ox1 ?_ | (refine ox2 ?_ ?_ <;> intro hp) | fail) | fail))
    all_goals (
      refine obe_nil ⟨rfl, ?_⟩; intro us a w hk hS
      (repeat' (first | (show wpListIn _ _ _ _ _ (_ :: _) _ _; first | (refine wx1 ?_; clear hk a; intro a hk) | (refine wx2 ?_ ?_ <;> (intro hp; clear hk a; intro a hk)) | (refine wx3 ?_; clear hk hS a; intro w b hS a hk) | (refine wx4 ?_; clear hk hS a; intro w hS a hk) | (refine wx5 ?_; clear hk hS a; intro w v hS a hk) | fail) | refine wx0 ?_ | (refine s_end hk ?_; clear hk a; intro a hk) | fail))
      exact done1 hk (h := ⟨by unfold mayL; first | (rw [decide_eq_true (by omega)]; rfl) | (rw [decide_eq_false (by omega)]; rfl), hS.nil⟩))
  · refine obe_nil ⟨rfl, ?_⟩; intro us a w hk hS
    (repeat' (first | (show wpListIn _ _ _ _ _ (_ :: _) _ _; first | (refine wx1 ?_; clear hk a; intro a hk) | (refine wx2 ?_ ?_ <;> (intro hp; clear hk a; intro a hk)) | (refine wx3 ?_; clear hk hS a; intro w b hS a hk) | (refine wx4 ?_; clear hk hS a; intro w hS a hk) | (refine wx5 ?_; clear hk hS a; intro w v hS a hk) | fail) | refine wx0 ?_ | (refine s_end hk ?_; clear hk a; intro a hk) | fail))
    exact done1 hk (h := ⟨by unfold mayL; first | (rw [decide_eq_true (by omega)]; rfl) | (rw [decide_eq_false (by omega)]; rfl), hS.nil⟩)
theorem leaving_any (k m x y : Int) (w0 : World) : Calls Try.prog 18 #[.agg #[.int .i64 k, .int .i64 m, .int .i64 x, .int .i64 y]] w0 (Ret fun v w => v = .bool (leaL k) ∧ St w0 [] w) := by
  refine enter Try.func18 rfl Try.ntmps18 rfl (fun a hk => ?_); have hS := St.refl w0
  (repeat' (first | (show wpListIn _ _ _ _ _ (_ :: _) _ _; first | (refine wx1 ?_; clear hk a; intro a hk) | (refine wx2 ?_ ?_ <;> (intro hp; clear hk a; intro a hk)) | (refine wx3 ?_; clear hk hS a; intro w b hS a hk) | (refine wx4 ?_; clear hk hS a; intro w hS a hk) | (refine wx5 ?_; clear hk hS a; intro w v hS a hk) | fail) | refine wx0 ?_ | (refine s_end hk ?_; clear hk a; intro a hk) | fail))
  all_goals exact done1 hk (h := ⟨by unfold leaL; first | rw [decide_eq_true (by omega)] | rw [decide_eq_false (by omega)], hS.nil⟩)
theorem ghost_any (k m x y : Int) (w0 : World) : Calls Try.prog 15 #[.agg #[.int .i64 k, .int .i64 m, .int .i64 x, .int .i64 y]] w0 (Ret fun v w => v = .bool (ghoL k) ∧ St w0 [] w) := by
  refine enter Try.func15 rfl Try.ntmps15 rfl (fun a hk => ?_); have hS := St.refl w0
  by_cases h4 : k = 4
  · (repeat' (first | (show wpListIn _ _ _ _ _ (_ :: _) _ _; first | (refine wx1 ?_; clear hk a; intro a hk) | (refine wx2 ?_ ?_ <;> (intro hp; clear hk a; intro a hk)) | (refine wx3 ?_; clear hk hS a; intro w b hS a hk) | (refine wx4 ?_; clear hk hS a; intro w hS a hk) | (refine wx5 ?_; clear hk hS a; intro w v hS a hk) | fail) | refine wx0 ?_ | (refine s_end hk ?_; clear hk a; intro a hk) | fail))
    exact done1 hk (h := ⟨by unfold ghoL; rw [decide_eq_true (by omega)], hS.nil⟩)
  · (repeat' (first | (show wpListIn _ _ _ _ _ (_ :: _) _ _; first | (refine wx1 ?_; clear hk a; intro a hk) | (refine wx2 ?_ ?_ <;> (intro hp; clear hk a; intro a hk)) | (refine wx3 ?_; clear hk hS a; intro w b hS a hk) | (refine wx4 ?_; clear hk hS a; intro w hS a hk) | (refine wx5 ?_; clear hk hS a; intro w v hS a hk) | fail) | refine wx0 ?_ | (refine s_end hk ?_; clear hk a; intro a hk) | fail))
    refine sg hk (g_callO hk (hf := by kernel_rfl) (hc := leaving_any k m x y _) (h := ?_)); clear hk a; rintro _ w ⟨rfl, hS1⟩ a hk; replace hS := hS.call0 hS1; clear hS1
    (repeat' (first | (show wpListIn _ _ _ _ _ (_ :: _) _ _; first | (refine wx1 ?_; clear hk a; intro a hk) | (refine wx2 ?_ ?_ <;> (intro hp; clear hk a; intro a hk)) | (refine wx3 ?_; clear hk hS a; intro w b hS a hk) | (refine wx4 ?_; clear hk hS a; intro w hS a hk) | (refine wx5 ?_; clear hk hS a; intro w v hS a hk) | fail) | refine wx0 ?_ | (refine s_end hk ?_; clear hk a; intro a hk) | fail))
    refine done1 hk (h := ⟨?_, hS.nil⟩)
    unfold leaL ghoL
    by_cases h5 : k = 5 ∨ k = 6
    · rw [decide_eq_true h5, decide_eq_true (by omega)]
    · rw [decide_eq_false h5, decide_eq_false (by omega)]

set_option maxHeartbeats 4000000 in
theorem marks_any (k m x y : Int) (w0 : World) : Calls Try.prog 40 #[.agg #[.int .i64 k, .int .i64 m, .int .i64 x, .int .i64 y]] w0 (Ret fun v w => St w0 [OwT 9 (mkL k) v] w) := by
  refine enter Try.func40 rfl Try.ntmps40 rfl (fun a hk => ?_); have hS := St.refl w0
  by_cases h1 : k = 1
  · have hm : mkL k = [⟨#[116, 45, 119, 97, 105, 116]⟩] := by subst h1; rfl
    rw [hm]
    (repeat' (first | (show wpListIn _ _ _ _ _ (_ :: _) _ _; first | (refine wx1 ?_; clear hk a; intro a hk) | (refine wx2 ?_ ?_ <;> (intro hp; clear hk a; intro a hk)) | (refine wx3 ?_; clear hk hS a; intro w b hS a hk) | (refine wx4 ?_; clear hk hS a; intro w hS a hk) | (refine wx5 ?_; clear hk hS a; intro w v hS a hk) | fail) | refine wx0 ?_ | (refine s_end hk ?_; clear hk a; intro a hk) | fail))
    exact done1 hk (h := hS.sb)
  by_cases h2 : k = 2
  · have hm : mkL k = [⟨#[116, 45, 101, 110, 116, 101, 114, 45, 102, 114, 111, 109]⟩, ⟨#[116, 45, 101, 110, 116, 101, 114, 45, 97, 99, 116, 105, 118, 101]⟩] := by subst h2; rfl
    rw [hm]
    (repeat' (first | (show wpListIn _ _ _ _ _ (_ :: _) _ _; first | (refine wx1 ?_; clear hk a; intro a hk) | (refine wx2 ?_ ?_ <;> (intro hp; clear hk a; intro a hk)) | (refine wx3 ?_; clear hk hS a; intro w b hS a hk) | (refine wx4 ?_; clear hk hS a; intro w hS a hk) | (refine wx5 ?_; clear hk hS a; intro w v hS a hk) | fail) | refine wx0 ?_ | (refine s_end hk ?_; clear hk a; intro a hk) | fail))
    refine sg hk (g_bsT (xs := ([⟨#[116, 45, 101, 110, 116, 101, 114, 45, 102, 114, 111, 109]⟩, ⟨#[116, 45, 101, 110, 116, 101, 114, 45, 97, 99, 116, 105, 118, 101]⟩] : List ByteArray)) (m := 1) hk hS ?_ (hT := eT rfl) (hE := zT rfl) (hz := oT rfl)); clear hk hS a; intro w vn hS a hk
    (repeat' (first | (show wpListIn _ _ _ _ _ (_ :: _) _ _; first | (refine wx1 ?_; clear hk a; intro a hk) | (refine wx2 ?_ ?_ <;> (intro hp; clear hk a; intro a hk)) | (refine wx3 ?_; clear hk hS a; intro w b hS a hk) | (refine wx4 ?_; clear hk hS a; intro w hS a hk) | (refine wx5 ?_; clear hk hS a; intro w v hS a hk) | fail) | refine wx0 ?_ | (refine s_end hk ?_; clear hk a; intro a hk) | fail))
    exact done1 hk (h := hS.sb)
  by_cases h3 : k = 3
  · have hm : mkL k = [⟨#[116, 45, 101, 110, 116, 101, 114, 45, 97, 99, 116, 105, 118, 101]⟩, ⟨#[116, 45, 101, 110, 116, 101, 114, 45, 116, 111]⟩] := by subst h3; rfl
    rw [hm]
    (repeat' (first | (show wpListIn _ _ _ _ _ (_ :: _) _ _; first | (refine wx1 ?_; clear hk a; intro a hk) | (refine wx2 ?_ ?_ <;> (intro hp; clear hk a; intro a hk)) | (refine wx3 ?_; clear hk hS a; intro w b hS a hk) | (refine wx4 ?_; clear hk hS a; intro w hS a hk) | (refine wx5 ?_; clear hk hS a; intro w v hS a hk) | fail) | refine wx0 ?_ | (refine s_end hk ?_; clear hk a; intro a hk) | fail))
    refine sg hk (g_bsT (xs := ([⟨#[116, 45, 101, 110, 116, 101, 114, 45, 97, 99, 116, 105, 118, 101]⟩, ⟨#[116, 45, 101, 110, 116, 101, 114, 45, 116, 111]⟩] : List ByteArray)) (m := 1) hk hS ?_ (hT := eT rfl) (hE := zT rfl) (hz := oT rfl)); clear hk hS a; intro w vn hS a hk
    (repeat' (first | (show wpListIn _ _ _ _ _ (_ :: _) _ _; first | (refine wx1 ?_; clear hk a; intro a hk) | (refine wx2 ?_ ?_ <;> (intro hp; clear hk a; intro a hk)) | (refine wx3 ?_; clear hk hS a; intro w b hS a hk) | (refine wx4 ?_; clear hk hS a; intro w hS a hk) | (refine wx5 ?_; clear hk hS a; intro w v hS a hk) | fail) | refine wx0 ?_ | (refine s_end hk ?_; clear hk a; intro a hk) | fail))
    exact done1 hk (h := hS.sb)
  by_cases h4 : k = 4
  · have hm : mkL k = [⟨#[116, 45, 104, 111, 108, 100]⟩] := by subst h4; rfl
    rw [hm]
    (repeat' (first | (show wpListIn _ _ _ _ _ (_ :: _) _ _; first | (refine wx1 ?_; clear hk a; intro a hk) | (refine wx2 ?_ ?_ <;> (intro hp; clear hk a; intro a hk)) | (refine wx3 ?_; clear hk hS a; intro w b hS a hk) | (refine wx4 ?_; clear hk hS a; intro w hS a hk) | (refine wx5 ?_; clear hk hS a; intro w v hS a hk) | fail) | refine wx0 ?_ | (refine s_end hk ?_; clear hk a; intro a hk) | fail))
    exact done1 hk (h := hS.sb)
  by_cases h5 : k = 5
  · have hm : mkL k = [⟨#[116, 45, 108, 101, 97, 118, 101, 45, 102, 114, 111, 109]⟩, ⟨#[116, 45, 108, 101, 97, 118, 101, 45, 97, 99, 116, 105, 118, 101]⟩] := by subst h5; rfl
    rw [hm]
    (repeat' (first | (show wpListIn _ _ _ _ _ (_ :: _) _ _; first | (refine wx1 ?_; clear hk a; intro a hk) | (refine wx2 ?_ ?_ <;> (intro hp; clear hk a; intro a hk)) | (refine wx3 ?_; clear hk hS a; intro w b hS a hk) | (refine wx4 ?_; clear hk hS a; intro w hS a hk) | (refine wx5 ?_; clear hk hS a; intro w v hS a hk) | fail) | refine wx0 ?_ | (refine s_end hk ?_; clear hk a; intro a hk) | fail))
    refine sg hk (g_bsT (xs := ([⟨#[116, 45, 108, 101, 97, 118, 101, 45, 102, 114, 111, 109]⟩, ⟨#[116, 45, 108, 101, 97, 118, 101, 45, 97, 99, 116, 105, 118, 101]⟩] : List ByteArray)) (m := 1) hk hS ?_ (hT := eT rfl) (hE := zT rfl) (hz := oT rfl)); clear hk hS a; intro w vn hS a hk
    (repeat' (first | (show wpListIn _ _ _ _ _ (_ :: _) _ _; first | (refine wx1 ?_; clear hk a; intro a hk) | (refine wx2 ?_ ?_ <;> (intro hp; clear hk a; intro a hk)) | (refine wx3 ?_; clear hk hS a; intro w b hS a hk) | (refine wx4 ?_; clear hk hS a; intro w hS a hk) | (refine wx5 ?_; clear hk hS a; intro w v hS a hk) | fail) | refine wx0 ?_ | (refine s_end hk ?_; clear hk a; intro a hk) | fail))
    exact done1 hk (h := hS.sb)
  by_cases h6 : k = 6
  · have hm : mkL k = [⟨#[116, 45, 108, 101, 97, 118, 101, 45, 97, 99, 116, 105, 118, 101]⟩, ⟨#[116, 45, 108, 101, 97, 118, 101, 45, 116, 111]⟩] := by subst h6; rfl
    rw [hm]
    (repeat' (first | (show wpListIn _ _ _ _ _ (_ :: _) _ _; first | (refine wx1 ?_; clear hk a; intro a hk) | (refine wx2 ?_ ?_ <;> (intro hp; clear hk a; intro a hk)) | (refine wx3 ?_; clear hk hS a; intro w b hS a hk) | (refine wx4 ?_; clear hk hS a; intro w hS a hk) | (refine wx5 ?_; clear hk hS a; intro w v hS a hk) | fail) | refine wx0 ?_ | (refine s_end hk ?_; clear hk a; intro a hk) | fail))
    refine sg hk (g_bsT (xs := ([⟨#[116, 45, 108, 101, 97, 118, 101, 45, 97, 99, 116, 105, 118, 101]⟩, ⟨#[116, 45, 108, 101, 97, 118, 101, 45, 116, 111]⟩] : List ByteArray)) (m := 1) hk hS ?_ (hT := eT rfl) (hE := zT rfl) (hz := oT rfl)); clear hk hS a; intro w vn hS a hk
    (repeat' (first | (show wpListIn _ _ _ _ _ (_ :: _) _ _; first | (refine wx1 ?_; clear hk a; intro a hk) | (refine wx2 ?_ ?_ <;> (intro hp; clear hk a; intro a hk)) | (refine wx3 ?_; clear hk hS a; intro w b hS a hk) | (refine wx4 ?_; clear hk hS a; intro w hS a hk) | (refine wx5 ?_; clear hk hS a; intro w v hS a hk) | fail) | refine wx0 ?_ | (refine s_end hk ?_; clear hk a; intro a hk) | fail))
    exact done1 hk (h := hS.sb)
  · have hm : mkL k = [] := by unfold mkL; rw [if_neg h1, if_neg h2, if_neg h3, if_neg h4, if_neg h5, if_neg h6]
    rw [hm]
    (repeat' (first | (show wpListIn _ _ _ _ _ (_ :: _) _ _; first | (refine wx1 ?_; clear hk a; intro a hk) | (refine wx2 ?_ ?_ <;> (intro hp; clear hk a; intro a hk)) | (refine wx3 ?_; clear hk hS a; intro w b hS a hk) | (refine wx4 ?_; clear hk hS a; intro w hS a hk) | (refine wx5 ?_; clear hk hS a; intro w v hS a hk) | fail) | refine wx0 ?_ | (refine s_end hk ?_; clear hk a; intro a hk) | fail))
    exact done1 hk (h := hS.nil.nilT 9 ByteArray)
theorem mkL_len (k : Int) : (mkL k).length ≤ 2 := by
  unfold mkL
  repeat' split
  all_goals simp
theorem classes_any (k m x y : Int) (w0 : World) : Calls Try.prog 20 #[.agg #[.int .i64 k, .int .i64 m, .int .i64 x, .int .i64 y]] w0 (Ret fun v w => St w0 [OwT 9 (clsL k m) v] w) := by
  have hml := mkL_len k
  refine enter Try.func20 rfl Try.ntmps20 rfl (fun a hk => ?_); have hS := St.refl w0
  (repeat' (first | (show wpListIn _ _ _ _ _ (_ :: _) _ _; first | (refine wx1 ?_; clear hk a; intro a hk) | (refine wx2 ?_ ?_ <;> (intro hp; clear hk a; intro a hk)) | (refine wx3 ?_; clear hk hS a; intro w b hS a hk) | (refine wx4 ?_; clear hk hS a; intro w hS a hk) | (refine wx5 ?_; clear hk hS a; intro w v hS a hk) | fail) | refine wx0 ?_ | (refine s_end hk ?_; clear hk a; intro a hk) | fail))
  refine sg hk (g_callO hk (hf := by kernel_rfl) (hc := marks_any k m x y _) (h := ?_)); clear hk a; rintro vm w hS1 a hk; replace hS := hS.call hS1; clear hS1
  rw [List.cons_append, List.nil_append] at hS
  by_cases h0 : m = 0
  · have hc : clsL k m = mkL k := by unfold clsL; rw [if_pos h0, List.append_nil]
    rw [hc]
    (repeat' (first | (show wpListIn _ _ _ _ _ (_ :: _) _ _; first | (refine wx1 ?_; clear hk a; intro a hk) | (refine wx2 ?_ ?_ <;> (intro hp; clear hk a; intro a hk)) | (refine wx3 ?_; clear hk hS a; intro w b hS a hk) | (refine wx4 ?_; clear hk hS a; intro w hS a hk) | (refine wx5 ?_; clear hk hS a; intro w v hS a hk) | fail) | refine wx0 ?_ | (refine s_end hk ?_; clear hk a; intro a hk) | fail))
    exact done1 hk (h := hS.sb)
  · have hc : clsL k m = mkL k ++ [⟨#[116, 45, 109, 111, 118, 101]⟩] := by unfold clsL; rw [if_neg h0]
    rw [hc]
    (repeat' (first | (show wpListIn _ _ _ _ _ (_ :: _) _ _; first | (refine wx1 ?_; clear hk a; intro a hk) | (refine wx2 ?_ ?_ <;> (intro hp; clear hk a; intro a hk)) | (refine wx3 ?_; clear hk hS a; intro w b hS a hk) | (refine wx4 ?_; clear hk hS a; intro w hS a hk) | (refine wx5 ?_; clear hk hS a; intro w v hS a hk) | fail) | refine wx0 ?_ | (refine s_end hk ?_; clear hk a; intro a hk) | fail))
    exact done1 hk (h := hS.sb)
end Go.Proofs.Ytakejjfmbgbedaa
namespace Go.Proofs.Ytakejjfmbgbedaa
open Go.RowKit
set_option maxRecDepth 100000
attribute [local irreducible] Go.Code.wpIn Go.wpListIn Go.Calls Gives Go.Exit.then Go.Exit.inBlock Done ObxE

theorem sameC_any (l : List ByteArray) (v u : Value) (w0 : World) (hv : SlT l v w0) (hu : SlT l u w0) (hl : l.length ≤ 1000) :
    Calls Try.prog 19 #[v, u] w0 (Ret fun v w => v = .bool true ∧ St w0 [] w) := by
  refine enter Try.func19 rfl Try.ntmps19 rfl (fun a hk => ?_); have hS := St.refl w0
  (repeat' (first | (show wpListIn _ _ _ _ _ (_ :: _) _ _; first | (refine wx1 ?_; clear hk a; intro a hk) | (refine wx2 ?_ ?_ <;> (intro hp; clear hk a; intro a hk)) | (refine wx3 ?_; clear hk hS a; intro w b hS a hk) | (refine wx4 ?_; clear hk hS a; intro w hS a hk) | (refine wx5 ?_; clear hk hS a; intro w v hS a hk) | fail) | refine wx0 ?_ | (refine s_end hk ?_; clear hk a; intro a hk) | fail))
  replace hk := Kn.kp [0, 1, 12, 13] hk
  refine wp_for l.length (fun i _ => [(13, .int .i64 (i : Int))]) (fun _ _ => []) (fun _ _ => True) () hk (by repeat (first | exact trivial | refine ⟨rfl, ?_⟩)) hS.sb trivial ?_
  clear hk hS a
  rintro i - a w hi hk hS -
  have hv1 := hS.rdT hv
  have hu1 := hS.rdT hu
  by_cases hil : i < l.length
  · obtain ⟨x, hx⟩ : ∃ x, l[i]? = some x := ⟨_, List.getElem?_eq_getElem hil⟩
    (repeat' (first | (show wpListIn _ _ _ _ _ (_ :: _) _ _; first | (refine wx1 ?_; clear hk a; intro a hk) | (refine wx2 ?_ ?_ <;> (intro hp; clear hk a; intro a hk)) | (refine wx3 ?_; clear hk hS a; intro w b hS a hk) | (refine wx4 ?_; clear hk hS a; intro w hS a hk) | (refine wx5 ?_; clear hk hS a; intro w v hS a hk) | fail) | refine wx0 ?_ | (refine s_end hk ?_; clear hk a; intro a hk) | fail))
    refine wp_drawn 9 mixed (by kernel_rfl) hk hS ?_; clear hk hS a
    (repeat' (first | (show ObxE _ _ _ _ _ _ _ _ _ (_ :: _) _ _ _; first | refine ox1 ?_ | (refine ox2 ?_ ?_ <;> intro hp) | fail) | fail))
    all_goals first
      | (rename_i hp; exact absurd rfl hp)
      | skip
    refine obe_nil ⟨rfl, ?_⟩; intro us a w hk hS
    (repeat' (first | (show wpListIn _ _ _ _ _ (_ :: _) _ _; first | (refine wx1 ?_; clear hk a; intro a hk) | (refine wx2 ?_ ?_ <;> (intro hp; clear hk a; intro a hk)) | (refine wx3 ?_; clear hk hS a; intro w b hS a hk) | (refine wx4 ?_; clear hk hS a; intro w hS a hk) | (refine wx5 ?_; clear hk hS a; intro w v hS a hk) | fail) | refine wx0 ?_ | (refine s_end hk ?_; clear hk a; intro a hk) | fail))
    exact ⟨hil, (), hk.sd, hS.sb, trivial⟩
  · have : i = l.length := by omega
    subst this
    (repeat' (first | (show wpListIn _ _ _ _ _ (_ :: _) _ _; first | (refine wx1 ?_; clear hk a; intro a hk) | (refine wx2 ?_ ?_ <;> (intro hp; clear hk a; intro a hk)) | (refine wx3 ?_; clear hk hS a; intro w b hS a hk) | (refine wx4 ?_; clear hk hS a; intro w hS a hk) | (refine wx5 ?_; clear hk hS a; intro w v hS a hk) | fail) | refine wx0 ?_ | (refine s_end hk ?_; clear hk a; intro a hk) | fail))
    exact done1 hk (h := ⟨rfl, hS.nil⟩)
end Go.Proofs.Ytakejjfmbgbedaa
namespace Go.Proofs.Ytakejjfmbgbedaa
open Go.RowKit
set_option maxRecDepth 100000
attribute [local irreducible] Go.Code.wpIn Go.wpListIn Go.Calls Gives Go.Exit.then Go.Exit.inBlock Done ObxE

theorem setI_any (l : List PrI) (k : ByteArray) (x : Int) (v : Value) (w0 : World) (hv : SlT l v w0) (hl : l.length ≤ 1000) :
    Calls Try.prog 36 #[v, .string k, .int .i64 x] w0 (Ret fun v w => St w0 [OwT 86 (putF nmI (snapF nmI l) (k, x)) v] w) := by
  have hsl := snap_len nmI l
  refine enter Try.func36 rfl Try.ntmps36 rfl (fun a hk => ?_); have hS := St.refl w0
  (repeat' (first | (show wpListIn _ _ _ _ _ (_ :: _) _ _; first | (refine wx1 ?_; clear hk a; intro a hk) | (refine wx2 ?_ ?_ <;> (intro hp; clear hk a; intro a hk)) | (refine wx3 ?_; clear hk hS a; intro w b hS a hk) | (refine wx4 ?_; clear hk hS a; intro w hS a hk) | (refine wx5 ?_; clear hk hS a; intro w v hS a hk) | fail) | refine wx0 ?_ | (refine s_end hk ?_; clear hk a; intro a hk) | fail))
  refine sg hk (g_callO hk (hf := by kernel_rfl) (hc := ofI_any l v _ (hS.rdT hv) hl) (h := ?_)); clear hk a; rintro vs w hS1 a hk; replace hS := hS.call hS1; clear hS1
  (repeat' (first | (show wpListIn _ _ _ _ _ (_ :: _) _ _; first | (refine wx1 ?_; clear hk a; intro a hk) | (refine wx2 ?_ ?_ <;> (intro hp; clear hk a; intro a hk)) | (refine wx3 ?_; clear hk hS a; intro w b hS a hk) | (refine wx4 ?_; clear hk hS a; intro w hS a hk) | (refine wx5 ?_; clear hk hS a; intro w v hS a hk) | fail) | refine wx0 ?_ | (refine s_end hk ?_; clear hk a; intro a hk) | fail))
  refine sg hk (g_callO hk (hf := by kernel_rfl) (hc := putI_any (s := snapF nmI l) (v := vs) (L := []) ((k, x) : PrI) (hS.sub (by (repeat (first | exact Sub.nil | exact Sub.refl | refine Sub.cons (by (repeat (first | exact At.here | apply At.there))) ?_)))) (by omega) (snap_rises nmI l)) (h := ?_)); clear hk hS a; intro vr w hS a hk
  (repeat' (first | (show wpListIn _ _ _ _ _ (_ :: _) _ _; first | (refine wx1 ?_; clear hk a; intro a hk) | (refine wx2 ?_ ?_ <;> (intro hp; clear hk a; intro a hk)) | (refine wx3 ?_; clear hk hS a; intro w b hS a hk) | (refine wx4 ?_; clear hk hS a; intro w hS a hk) | (refine wx5 ?_; clear hk hS a; intro w v hS a hk) | fail) | refine wx0 ?_ | (refine s_end hk ?_; clear hk a; intro a hk) | fail))
  exact done1 hk (h := hS)

theorem setS_any (l : List PrS) (k : ByteArray) (x : ByteArray) (v : Value) (w0 : World) (hv : SlT l v w0) (hl : l.length ≤ 1000) :
    Calls Try.prog 35 #[v, .string k, .string x] w0 (Ret fun v w => St w0 [OwT 61 (putF nmS (snapF nmS l) (k, x)) v] w) := by
  have hsl := snap_len nmS l
  refine enter Try.func35 rfl Try.ntmps35 rfl (fun a hk => ?_); have hS := St.refl w0
  (repeat' (first | (show wpListIn _ _ _ _ _ (_ :: _) _ _; first | (refine wx1 ?_; clear hk a; intro a hk) | (refine wx2 ?_ ?_ <;> (intro hp; clear hk a; intro a hk)) | (refine wx3 ?_; clear hk hS a; intro w b hS a hk) | (refine wx4 ?_; clear hk hS a; intro w hS a hk) | (refine wx5 ?_; clear hk hS a; intro w v hS a hk) | fail) | refine wx0 ?_ | (refine s_end hk ?_; clear hk a; intro a hk) | fail))
  refine sg hk (g_callO hk (hf := by kernel_rfl) (hc := ofS_any l v _ (hS.rdT hv) hl) (h := ?_)); clear hk a; rintro vs w hS1 a hk; replace hS := hS.call hS1; clear hS1
  (repeat' (first | (show wpListIn _ _ _ _ _ (_ :: _) _ _; first | (refine wx1 ?_; clear hk a; intro a hk) | (refine wx2 ?_ ?_ <;> (intro hp; clear hk a; intro a hk)) | (refine wx3 ?_; clear hk hS a; intro w b hS a hk) | (refine wx4 ?_; clear hk hS a; intro w hS a hk) | (refine wx5 ?_; clear hk hS a; intro w v hS a hk) | fail) | refine wx0 ?_ | (refine s_end hk ?_; clear hk a; intro a hk) | fail))
  refine sg hk (g_callO hk (hf := by kernel_rfl) (hc := putS_any (s := snapF nmS l) (v := vs) (L := []) ((k, x) : PrS) (hS.sub (by (repeat (first | exact Sub.nil | exact Sub.refl | refine Sub.cons (by (repeat (first | exact At.here | apply At.there))) ?_)))) (by omega) (snap_rises nmS l)) (h := ?_)); clear hk hS a; intro vr w hS a hk
  (repeat' (first | (show wpListIn _ _ _ _ _ (_ :: _) _ _; first | (refine wx1 ?_; clear hk a; intro a hk) | (refine wx2 ?_ ?_ <;> (intro hp; clear hk a; intro a hk)) | (refine wx3 ?_; clear hk hS a; intro w b hS a hk) | (refine wx4 ?_; clear hk hS a; intro w hS a hk) | (refine wx5 ?_; clear hk hS a; intro w v hS a hk) | fail) | refine wx0 ?_ | (refine s_end hk ?_; clear hk a; intro a hk) | fail))
  exact done1 hk (h := hS)

end Go.Proofs.Ytakejjfmbgbedaa
namespace Go.Proofs.Ytakejjfmbgbedaa
open Go.RowKit

section
variable {df : List Deferred} {P : Program} {a : Act} {w w' : World} {w0 : Bs} {n : Nat} {l : List (Nat × Value)} {L L' : List HP}
  {dst : Option Nat} {R : Value → World → Prop} {ty : TypeId} {pos : String} {af : Array Edge} {g : Option (Nat × Bool)}

theorem g_appZ0 (α : Type) [Enc α] {x y : Operand} {t tx E q by_ : Nat} {z : Value} {kn : IntKind} (hk : Kn df n a l) (hS : St w0 L w)
    (h : ∀ (w' : World) (b' c' : Nat), q ≤ c' → c' ≤ maxLen → St w0 (OwT E ([] : List α) (.slice (some ⟨b', 0, none⟩) 0 c') :: L) w' → R (.slice (some ⟨b', 0, none⟩) q c') w')
    (hx : ev l x = some (.slice none 0 0) := by rfl) {p : Int} (hy : ev l y = some (.int .i64 p) := by rfl) (hp : p = (q : Int)) (ht : elOf P t = some E) (htx : P.underlying tx = some (.int kn)) (hE : szOf P E = some (Enc.k α + 1)) (hz : zeroOf P E = some z) (hzs : z.cells.size = Enc.k α + 1)
    (hby : ((P.info? E).map (·.bytes)).getD 0 = by_) (h0 : 0 < q) (hbytes : q * by_ ≤ 140737488355328) (h63 : q ≤ maxLen) :
    Gives P ⟨dst, .call { callee := .builtin .append, args := #[x, y], argTypes := #[t, tx] }, ty, pos, af, g⟩ a w R := by
  subst hp
  obtain ⟨inf, hi, his, hiz⟩ := byOf_info hE hz
  have hib : inf.bytes = by_ := by rw [hi] at hby; exact hby
  have hold : (Builtin.firstCells inf.size 0 (.slice none 0 0)).run P w.drew = .ok (([] : List Value).toArray) w.drew := by simp [Builtin.firstCells]
  have hqb : q * inf.bytes ≤ 281474976710656 := by rw [hib]; omega
  have hr := Lib.run_append_grow_zeros (P := P) w t tx ty E inf z .i64 kn (elOf_und ht) htx hi hiz none 0 0 [] hold q h0 (by omega) (by omega) (by simp only [maxLen] at h63; omega) hqb (growslice_fits (by omega) (by rw [hib, Nat.zero_add]; exact hbytes))
  simp only [Nat.zero_add] at hr
  have hge := grownCap_ge w q 0 E
  have hcm := grownCap_le_maxLen w q 0 E h63
  generalize grownCap w q 0 E = gc at *
  have hal := hS.drew.alloc (([] : List Value) ++ (Builtin.zeroCells z.cells q).toList ++ (Builtin.zeroCells z.cells (gc - q)).toList) E
  have hww : (w.drew.alloc (.cells (([] : List Value) ++ (Builtin.zeroCells z.cells q).toList ++ (Builtin.zeroCells z.cells (gc - q)).toList).toArray E)) = w.drew.alloc (.cells (([] : List Value).toArray ++ Builtin.zeroCells z.cells q ++ Builtin.zeroCells z.cells (gc - q)) E) := by
    congr 2
    apply Array.ext'
    simp
  rw [hww] at hal
  have hgl : q * (Enc.k α + 1) + (gc - q) * (Enc.k α + 1) = gc * (Enc.k α + 1) := by rw [← Nat.add_mul]; congr 1; omega
  refine givesv (v := .slice (some ⟨w.heap.size, 0, none⟩) q gc) (w' := _) ?_ (h _ _ gc hge hcm (hal.toOwn (ys := ([] : List α)) (off := 0) (cap := gc) At.here (by simp) hcm ?_ (fun j u hj => by simp [enc] at hj)))
  · simp [execOp, resolve, invoke, builtin, hk.eval hx, hk.eval hy, hr]
  · rw [List.length_append, List.length_append, List.length_nil, Array.length_toList, Array.length_toList, size_zeroCells, size_zeroCells, hzs, Nat.zero_add, Nat.zero_add, hgl]
    exact Nat.le_refl _
theorem g_slT0 {x y : Operand} {t E k m c j : Nat} {ao : Option Addr} {p : Int} {kk : IntKind} (hk : Kn df n a l) (h : R (.slice ao j c) w)
    (hx : ev l x = some (.slice ao m c) := by rfl) (hy : ev l y = some (.int kk p) := by rfl) (ht : elOf P t = some E) (hE : szOf P E = some k) (hp : p = (j : Int)) (hj : j ≤ c) :
    Gives P ⟨dst, .slice t x none (some y) none, ty, pos, af, g⟩ a w R := by
  subst hp
  refine givesv (v := .slice ao j c) ?_ h
  have e : ∀ ad : Addr, ad.add 0 = ad := fun _ => rfl
  by_cases h0 : c = 0
  · have hj0 : j = 0 := by omega
    subst h0 hj0
    simp [execOp, hk.eval hx, hk.eval hy, Instr.sliceAt, Instr.slice, run_underlying (elOf_und ht), Instr.sliceBounds, Instr.sliceBound, asIntOf, szOf_run hE]
  · cases ao <;> simp [execOp, hk.eval hx, hk.eval hy, Instr.sliceAt, Instr.slice, run_underlying (elOf_und ht), Instr.sliceBounds, Instr.sliceBound, asIntOf, hj, szOf_run hE, h0, e]
end
set_option maxRecDepth 100000
attribute [local irreducible] Go.Code.wpIn Go.wpListIn Go.Calls Gives Go.Exit.then Go.Exit.inBlock Done ObxE

theorem growS_any (q : Nat) (w0 : World) (hq : q ≤ 1000) : Calls Try.prog 53 #[.slice none 0 0, .int .i64 (q : Int)] w0 (Ret fun v w => St w0 [OwT 9 ([] : List ByteArray) v] w) := by
  have hn0 : SlT ([] : List ByteArray) (.slice none 0 0) w0 := SlT.nil w0
  refine enter Try.func53 rfl Try.ntmps53 rfl (fun a hk => ?_); have hS := St.refl w0
  by_cases h0 : q = 0
  · (repeat' (first | (show wpListIn _ _ _ _ _ (_ :: _) _ _; first | (refine wx1 ?_; clear hk a; intro a hk) | (refine wx2 ?_ ?_ <;> (intro hp; clear hk a; intro a hk)) | (refine wx3 ?_; clear hk hS a; intro w b hS a hk) | (refine wx4 ?_; clear hk hS a; intro w hS a hk) | (refine wx5 ?_; clear hk hS a; intro w v hS a hk) | fail) | refine wx0 ?_ | (refine s_end hk ?_; clear hk a; intro a hk) | fail))
    refine sg hk (g_capC hk ?_ (ht := eT rfl)); clear hk a; intro a hk
    (repeat' (first | (show wpListIn _ _ _ _ _ (_ :: _) _ _; first | (refine wx1 ?_; clear hk a; intro a hk) | (refine wx2 ?_ ?_ <;> (intro hp; clear hk a; intro a hk)) | (refine wx3 ?_; clear hk hS a; intro w b hS a hk) | (refine wx4 ?_; clear hk hS a; intro w hS a hk) | (refine wx5 ?_; clear hk hS a; intro w v hS a hk) | fail) | refine wx0 ?_ | (refine s_end hk ?_; clear hk a; intro a hk) | fail))
    rw [List.length_nil] at hk
    (repeat' (first | (show wpListIn _ _ _ _ _ (_ :: _) _ _; first | (refine wx1 ?_; clear hk a; intro a hk) | (refine wx2 ?_ ?_ <;> (intro hp; clear hk a; intro a hk)) | (refine wx3 ?_; clear hk hS a; intro w b hS a hk) | (refine wx4 ?_; clear hk hS a; intro w hS a hk) | (refine wx5 ?_; clear hk hS a; intro w v hS a hk) | fail) | refine wx0 ?_ | (refine s_end hk ?_; clear hk a; intro a hk) | fail))
    exact done1 hk (h := hS.nilT 9 ByteArray)
  · (repeat' (first | (show wpListIn _ _ _ _ _ (_ :: _) _ _; first | (refine wx1 ?_; clear hk a; intro a hk) | (refine wx2 ?_ ?_ <;> (intro hp; clear hk a; intro a hk)) | (refine wx3 ?_; clear hk hS a; intro w b hS a hk) | (refine wx4 ?_; clear hk hS a; intro w hS a hk) | (refine wx5 ?_; clear hk hS a; intro w v hS a hk) | fail) | refine wx0 ?_ | (refine s_end hk ?_; clear hk a; intro a hk) | fail))
    refine sg hk (g_capC hk ?_ (ht := eT rfl)); clear hk a; intro a hk
    (repeat' (first | (show wpListIn _ _ _ _ _ (_ :: _) _ _; first | (refine wx1 ?_; clear hk a; intro a hk) | (refine wx2 ?_ ?_ <;> (intro hp; clear hk a; intro a hk)) | (refine wx3 ?_; clear hk hS a; intro w b hS a hk) | (refine wx4 ?_; clear hk hS a; intro w hS a hk) | (refine wx5 ?_; clear hk hS a; intro w v hS a hk) | fail) | refine wx0 ?_ | (refine s_end hk ?_; clear hk a; intro a hk) | fail))
    rw [List.length_nil] at hk
    (repeat' (first | (show wpListIn _ _ _ _ _ (_ :: _) _ _; first | (refine wx1 ?_; clear hk a; intro a hk) | (refine wx2 ?_ ?_ <;> (intro hp; clear hk a; intro a hk)) | (refine wx3 ?_; clear hk hS a; intro w b hS a hk) | (refine wx4 ?_; clear hk hS a; intro w hS a hk) | (refine wx5 ?_; clear hk hS a; intro w v hS a hk) | fail) | refine wx0 ?_ | (refine s_end hk ?_; clear hk a; intro a hk) | fail))
    refine sg hk (g_capC hk ?_ (ht := eT rfl)); clear hk a; intro a hk
    refine sg hk (g_slT0 hk ?_ (j := 0) (ht := eT rfl) (hE := zT rfl) (hp := by rfl) (hj := by omega)); clear hk a; intro a hk
    (repeat' (first | (show wpListIn _ _ _ _ _ (_ :: _) _ _; first | (refine wx1 ?_; clear hk a; intro a hk) | (refine wx2 ?_ ?_ <;> (intro hp; clear hk a; intro a hk)) | (refine wx3 ?_; clear hk hS a; intro w b hS a hk) | (refine wx4 ?_; clear hk hS a; intro w hS a hk) | (refine wx5 ?_; clear hk hS a; intro w v hS a hk) | fail) | refine wx0 ?_ | (refine s_end hk ?_; clear hk a; intro a hk) | fail))
    refine sg hk (g_appZ0 ByteArray hk hS ?_ (q := q) (hp := by omega) (ht := eT rfl) (htx := iT rfl) (hE := zT rfl) (hz := oT rfl) (hzs := rfl) (hby := bT rfl) (h0 := by omega) (hbytes := by omega) (h63 := by simp only [maxLen]; omega))
    clear hk hS a
    intro w b c hqc hc hS a hk
    have hn1 : SlT ([] : List ByteArray) (.slice none 0 0) w := SlT.nil w
    (repeat' (first | (show wpListIn _ _ _ _ _ (_ :: _) _ _; first | (refine wx1 ?_; clear hk a; intro a hk) | (refine wx2 ?_ ?_ <;> (intro hp; clear hk a; intro a hk)) | (refine wx3 ?_; clear hk hS a; intro w b hS a hk) | (refine wx4 ?_; clear hk hS a; intro w hS a hk) | (refine wx5 ?_; clear hk hS a; intro w v hS a hk) | fail) | refine wx0 ?_ | (refine s_end hk ?_; clear hk a; intro a hk) | fail))
    refine sg hk (g_slTc 0 hk ?_ (ht := eT rfl) (hE := zT rfl) (hp := rfl) (hj := by omega)); clear hk a; intro a hk
    (repeat' (first | (show wpListIn _ _ _ _ _ (_ :: _) _ _; first | (refine wx1 ?_; clear hk a; intro a hk) | (refine wx2 ?_ ?_ <;> (intro hp; clear hk a; intro a hk)) | (refine wx3 ?_; clear hk hS a; intro w b hS a hk) | (refine wx4 ?_; clear hk hS a; intro w hS a hk) | (refine wx5 ?_; clear hk hS a; intro w v hS a hk) | fail) | refine wx0 ?_ | (refine s_end hk ?_; clear hk a; intro a hk) | fail))
    exact done1 hk (h := hS.sb)

def pre2 (x y : List ByteArray) : Nat → List ByteArray
  | 0 => []
  | 1 => x
  | _ => x ++ y
set_option maxHeartbeats 1000000 in
theorem concat2_any (x y : List ByteArray) (a1 a2 : Option Addr) (c1 c2 : Nat) (v : Value) (w0 : World) (hv : SlT ([⟨a1, x.length, c1⟩, ⟨a2, y.length, c2⟩] : List Hd) v w0)
    (hx : SlT x (.slice a1 x.length c1) w0) (hy : SlT y (.slice a2 y.length c2) w0) (hl : x.length + y.length ≤ 1000) :
    Calls Try.prog 32 #[v] w0 (Ret fun v w => St w0 [OwT 9 (x ++ y) v] w) := by
  have hZ : ∀ i, i < 2 → ∃ (Z : List ByteArray) (ao : Option Addr) (c : Nat), ([⟨a1, x.length, c1⟩, ⟨a2, y.length, c2⟩] : List Hd)[i]? = some ⟨ao, Z.length, c⟩ ∧ SlT Z (.slice ao Z.length c) w0 ∧ pre2 x y (i + 1) = pre2 x y i ++ Z ∧ (pre2 x y i).length + Z.length ≤ 1000 := by
    intro i hi
    have h2 : i = 0 ∨ i = 1 := by omega
    rcases h2 with rfl | rfl
    · exact ⟨x, a1, c1, rfl, hx, rfl, by simp [pre2]; omega⟩
    · exact ⟨y, a2, c2, rfl, hy, rfl, by simp [pre2]; omega⟩
  have h2l : ([⟨a1, x.length, c1⟩, ⟨a2, y.length, c2⟩] : List Hd).length = 2 := rfl
  have hP0 : pre2 x y 0 = [] := rfl
  have hP2 : pre2 x y 2 = x ++ y := rfl
  generalize pre2 x y = Pf at *
  generalize ([⟨a1, x.length, c1⟩, ⟨a2, y.length, c2⟩] : List Hd) = H at *
  refine enter Try.func32 rfl Try.ntmps32 rfl (fun a hk => ?_); have hS := St.refl w0
  (repeat' (first | (show wpListIn _ _ _ _ _ (_ :: _) _ _; first | (refine wx1 ?_; clear hk a; intro a hk) | (refine wx2 ?_ ?_ <;> (intro hp; clear hk a; intro a hk)) | (refine wx3 ?_; clear hk hS a; intro w b hS a hk) | (refine wx4 ?_; clear hk hS a; intro w hS a hk) | (refine wx5 ?_; clear hk hS a; intro w v hS a hk) | fail) | refine wx0 ?_ | (refine s_end hk ?_; clear hk a; intro a hk) | fail))
  replace hk := Kn.kp [0, 3, 9, 10, 11] hk
  refine wp_for 2 (fun i (m : Nat) => [(3, .int .i64 (m : Int)), (11, .int .i64 (i : Int))]) (fun _ _ => []) (fun i m => m = (Pf i).length) 0 hk (by repeat (first | exact trivial | refine ⟨rfl, ?_⟩)) hS.sb (by rw [hP0]; rfl) ?_
  clear hk hS a
  rintro i m a w hi hk hS hm
  have hv1 := hS.rdT hv
  by_cases hil : i < 2
  · obtain ⟨Z, ao, c, hZx, hZs, hZp, hZl⟩ := hZ i hil
    have hZs1 := hS.rdT hZs
    (repeat' (first | (show wpListIn _ _ _ _ _ (_ :: _) _ _; first | (refine wx1 ?_; clear hk a; intro a hk) | (refine wx2 ?_ ?_ <;> (intro hp; clear hk a; intro a hk)) | (refine wx3 ?_; clear hk hS a; intro w b hS a hk) | (refine wx4 ?_; clear hk hS a; intro w hS a hk) | (refine wx5 ?_; clear hk hS a; intro w v hS a hk) | fail) | refine wx0 ?_ | (refine s_end hk ?_; clear hk a; intro a hk) | fail))
    exact ⟨hil, m + Z.length, hk.sd, hS.sb, by rw [hZp, List.length_append, hm]⟩
  have hie : i = 2 := by omega
  subst hie
  have hpl : (Pf 2).length = x.length + y.length := by rw [hP2, List.length_append]
  clear hil
  (repeat' (first | (show wpListIn _ _ _ _ _ (_ :: _) _ _; first | (refine wx1 ?_; clear hk a; intro a hk) | (refine wx2 ?_ ?_ <;> (intro hp; clear hk a; intro a hk)) | (refine wx3 ?_; clear hk hS a; intro w b hS a hk) | (refine wx4 ?_; clear hk hS a; intro w hS a hk) | (refine wx5 ?_; clear hk hS a; intro w v hS a hk) | fail) | refine wx0 ?_ | (refine s_end hk ?_; clear hk a; intro a hk) | fail))
  refine sg hk (g_callO hk (hf := by kernel_rfl) (hc := growS_any m _ (by omega)) (h := ?_)); clear hk a; rintro vg w hS1 a hk; replace hS := hS.call hS1; clear hS1
  (repeat' (first | (show wpListIn _ _ _ _ _ (_ :: _) _ _; first | (refine wx1 ?_; clear hk a; intro a hk) | (refine wx2 ?_ ?_ <;> (intro hp; clear hk a; intro a hk)) | (refine wx3 ?_; clear hk hS a; intro w b hS a hk) | (refine wx4 ?_; clear hk hS a; intro w hS a hk) | (refine wx5 ?_; clear hk hS a; intro w v hS a hk) | fail) | refine wx0 ?_ | (refine s_end hk ?_; clear hk a; intro a hk) | fail))
  replace hk := Kn.kp [6, 25, 26, 27] hk
  refine wp_for 2 (fun i (d : List ByteArray × Value) => [(6, d.2), (27, .int .i64 (i : Int))]) (fun i d => [OwT 9 d.1 d.2]) (fun i d => d.1 = Pf i) ([], vg) hk (by repeat (first | exact trivial | refine ⟨rfl, ?_⟩)) hS.sb hP0.symm ?_
  clear hk hS a hm hi
  rintro i ⟨s, vo⟩ a w hi hk hS (hs : s = Pf i)
  subst hs
  have hv1 := hS.rdT hv
  by_cases hil : i < 2
  · obtain ⟨Z, ao, c, hZx, hZs, hZp, hZl⟩ := hZ i hil
    have hZs1 := hS.rdT hZs
    (repeat' (first | (show wpListIn _ _ _ _ _ (_ :: _) _ _; first | (refine wx1 ?_; clear hk a; intro a hk) | (refine wx2 ?_ ?_ <;> (intro hp; clear hk a; intro a hk)) | (refine wx3 ?_; clear hk hS a; intro w b hS a hk) | (refine wx4 ?_; clear hk hS a; intro w hS a hk) | (refine wx6 ?_; clear hk hS a; intro w v hS a hk) | fail) | refine wx0 ?_ | (refine s_end hk ?_; clear hk a; intro a hk) | fail))
    refine sg hk (g_appT (xs := Pf i) (ys := Z) hk hS ?_ (hT := eT rfl) (hTx := eT rfl) (hE := zT rfl) (hz := oT rfl) (hzs := rfl) (hs := hZs1) (hby := bT rfl) (hbytes := by omega) (h63 := by simp only [maxLen]; omega)); clear hk hS a; intro w vn hS a hk
    rw [← hZp] at hS
    (repeat' (first | (show wpListIn _ _ _ _ _ (_ :: _) _ _; first | (refine wx1 ?_; clear hk a; intro a hk) | (refine wx2 ?_ ?_ <;> (intro hp; clear hk a; intro a hk)) | (refine wx3 ?_; clear hk hS a; intro w b hS a hk) | (refine wx4 ?_; clear hk hS a; intro w hS a hk) | (refine wx5 ?_; clear hk hS a; intro w v hS a hk) | fail) | refine wx0 ?_ | (refine s_end hk ?_; clear hk a; intro a hk) | fail))
    exact ⟨hil, (_, _), hk.sd, hS.sb, rfl⟩
  have hie : i = 2 := by omega
  subst hie
  rw [hP2] at hS
  clear hil
  (repeat' (first | (show wpListIn _ _ _ _ _ (_ :: _) _ _; first | (refine wx1 ?_; clear hk a; intro a hk) | (refine wx2 ?_ ?_ <;> (intro hp; clear hk a; intro a hk)) | (refine wx3 ?_; clear hk hS a; intro w b hS a hk) | (refine wx4 ?_; clear hk hS a; intro w hS a hk) | (refine wx5 ?_; clear hk hS a; intro w v hS a hk) | fail) | refine wx0 ?_ | (refine s_end hk ?_; clear hk a; intro a hk) | fail))
  exact done1 hk (h := hS.sb)
end Go.Proofs.Ytakejjfmbgbedaa
