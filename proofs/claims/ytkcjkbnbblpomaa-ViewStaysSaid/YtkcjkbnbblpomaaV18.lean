import Derived.Test.YtkcjkbnbblpomaaV17
import Derived.Test.YtkcjkbnbblpomaaV09
import Derived.Lib.ItoaNum
import Derived.Test.YtkcjkbnbblpomaaV10
import Derived.Test.YtkcjkbnbblpomaaV16
namespace Go.Proofs.Ytkcjkbnbblpomaa
open Go.RowKit
set_option maxRecDepth 100000
attribute [local irreducible] Go.Code.wpIn Go.wpListIn Go.Calls Gives Go.Exit.then Go.Exit.inBlock Done ObxE

set_option maxHeartbeats 1000000 in
theorem equalI_any (xs ys : List PrI) (vx vy : Value) (w0 : World) (hx : SlT xs vx w0) (hy : SlT ys vy w0) (hl : xs.length ≤ 1000) :
    Calls Try.prog 55 #[vx, vy] w0 (Ret fun v w => v = .bool (decide (xs = ys)) ∧ St w0 [] w) := by
  refine enter Try.func55 rfl Try.ntmps55 rfl (fun a hk => ?_); have hS := St.refl w0
  (repeat' (first | (show wpListIn _ _ _ _ _ (_ :: _) _ _; first | (refine wx1 ?_; clear hk a; intro a hk) | (refine wx2 ?_ ?_ <;> (intro hp; clear hk a; intro a hk)) | (refine wx3 ?_; clear hk hS a; intro w b hS a hk) | (refine wx4 ?_; clear hk hS a; intro w hS a hk) | (refine wx5 ?_; clear hk hS a; intro w v hS a hk) | fail) | refine wx0 ?_ | (refine s_end hk ?_; clear hk a; intro a hk) | fail))
  · replace hk := Kn.kp [0, 1, 12, 13] hk
    refine wp_for xs.length (fun i _ => [(13, .int .i64 (i : Int))]) (fun _ _ => []) (fun i _ => ∀ j, j < i → xs[j]? = ys[j]?) () hk (by repeat (first | exact trivial | refine ⟨rfl, ?_⟩)) hS (fun j hj => by omega) ?_
    clear hk hS a
    rintro i - a w hi hk hS hF
    by_cases hil : i < xs.length
    · (repeat' (first | (show wpListIn _ _ _ _ _ (_ :: _) _ _; first | (refine wx1 ?_; clear hk a; intro a hk) | (refine wx2 ?_ ?_ <;> (intro hp; clear hk a; intro a hk)) | (refine wx3 ?_; clear hk hS a; intro w b hS a hk) | (refine wx4 ?_; clear hk hS a; intro w hS a hk) | (refine wx5 ?_; clear hk hS a; intro w v hS a hk) | fail) | refine wx0 ?_ | (refine s_end hk ?_; clear hk a; intro a hk) | fail))
      refine wp_drawn 8 mixed (by kernel_rfl) hk hS ?_; clear hk hS a
      (repeat' (first | (show ObxE _ _ _ _ _ _ _ _ _ (_ :: _) _ _ _; first | refine ox1 ?_ | (refine ox2 ?_ ?_ <;> intro hp) | fail) | fail))
      refine obe_nil ⟨rfl, ?_⟩; intro us a w hk hS
      (repeat' (first | (show wpListIn _ _ _ _ _ (_ :: _) _ _; first | (refine wx1 ?_; clear hk a; intro a hk) | (refine wx2 ?_ ?_ <;> (intro hp; clear hk a; intro a hk)) | (refine wx3 ?_; clear hk hS a; intro w b hS a hk) | (refine wx4 ?_; clear hk hS a; intro w hS a hk) | (refine wx5 ?_; clear hk hS a; intro w v hS a hk) | fail) | refine wx0 ?_ | (refine s_end hk ?_; clear hk a; intro a hk) | fail))
      · have he := eqC_enc (x := xs[i]'hil) (y := ys[i]'(by omega)) (by assumption)
        rw [if_pos rfl] at he
        refine ⟨hil, (), hk.sd, hS, fun j hj => ?_⟩
        by_cases e : j = i
        · subst e
          rw [List.getElem?_eq_getElem hil, List.getElem?_eq_getElem (by omega), he]
        · exact hF j (by omega)
      · have he := eqC_enc (x := xs[i]'hil) (y := ys[i]'(by omega)) (by assumption)
        rw [if_neg (by decide)] at he
        refine done1 hk (h := ⟨?_, hS.nil⟩)
        rw [decide_eq_false]
        intro e
        subst e
        exact he rfl
    · (repeat' (first | (show wpListIn _ _ _ _ _ (_ :: _) _ _; first | (refine wx1 ?_; clear hk a; intro a hk) | (refine wx2 ?_ ?_ <;> (intro hp; clear hk a; intro a hk)) | (refine wx3 ?_; clear hk hS a; intro w b hS a hk) | (refine wx4 ?_; clear hk hS a; intro w hS a hk) | (refine wx5 ?_; clear hk hS a; intro w v hS a hk) | fail) | refine wx0 ?_ | (refine s_end hk ?_; clear hk a; intro a hk) | fail))
      refine done1 hk (h := ⟨?_, hS.nil⟩)
      rw [decide_eq_true]
      apply List.ext_getElem?
      intro j
      by_cases hj : j < i
      · exact hF j hj
      · rw [List.getElem?_eq_none (by omega), List.getElem?_eq_none (by omega)]
  · refine done1 hk (h := ⟨?_, hS.nil⟩)
    rw [decide_eq_false]
    intro e
    subst e
    have : ¬ ((xs.length : Nat) : Int) = ((xs.length : Nat) : Int) := by assumption
    exact this rfl

theorem sameI_any (l m : List PrI) (v u : Value) (w0 : World) (hv : SlT l v w0) (hu : SlT m u w0) (hl : l.length ≤ 1000) (hm : m.length ≤ 1000) :
    Calls Try.prog 36 #[v, u] w0 (Ret fun v w => v = .bool (decide (snapF nmI l = snapF nmI m)) ∧ St w0 [] w) := by
  have hsl := snap_len nmI l
  refine enter Try.func36 rfl Try.ntmps36 rfl (fun a hk => ?_); have hS := St.refl w0
  (repeat' (first | (show wpListIn _ _ _ _ _ (_ :: _) _ _; first | (refine wx1 ?_; clear hk a; intro a hk) | (refine wx2 ?_ ?_ <;> (intro hp; clear hk a; intro a hk)) | (refine wx3 ?_; clear hk hS a; intro w b hS a hk) | (refine wx4 ?_; clear hk hS a; intro w hS a hk) | (refine wx5 ?_; clear hk hS a; intro w v hS a hk) | fail) | refine wx0 ?_ | (refine s_end hk ?_; clear hk a; intro a hk) | fail))
  refine sg hk (g_callO hk (hf := by kernel_rfl) (hc := ofI_any l v _ (hS.rdT hv) hl) (h := ?_)); clear hk a; rintro vs w hS1 a hk; replace hS := hS.call hS1; clear hS1
  (repeat' (first | (show wpListIn _ _ _ _ _ (_ :: _) _ _; first | (refine wx1 ?_; clear hk a; intro a hk) | (refine wx2 ?_ ?_ <;> (intro hp; clear hk a; intro a hk)) | (refine wx3 ?_; clear hk hS a; intro w b hS a hk) | (refine wx4 ?_; clear hk hS a; intro w hS a hk) | (refine wx5 ?_; clear hk hS a; intro w v hS a hk) | fail) | refine wx0 ?_ | (refine s_end hk ?_; clear hk a; intro a hk) | fail))
  refine sg hk (g_callO hk (hf := by kernel_rfl) (hc := ofI_any m u _ (hS.rdT hu) hm) (h := ?_)); clear hk a; rintro vt w hS1 a hk; replace hS := hS.call hS1; clear hS1
  (repeat' (first | (show wpListIn _ _ _ _ _ (_ :: _) _ _; first | (refine wx1 ?_; clear hk a; intro a hk) | (refine wx2 ?_ ?_ <;> (intro hp; clear hk a; intro a hk)) | (refine wx3 ?_; clear hk hS a; intro w b hS a hk) | (refine wx4 ?_; clear hk hS a; intro w hS a hk) | (refine wx5 ?_; clear hk hS a; intro w v hS a hk) | fail) | refine wx0 ?_ | (refine s_end hk ?_; clear hk a; intro a hk) | fail))
  refine sg hk (g_callO hk (hf := by kernel_rfl) (hc := equalI_any _ _ vs vt _ (by first | exact St.rdT hS (by assumption) | exact OwT.rd (hS.rd (A := OwT _ _ _) (by (repeat (first | exact At.here | apply At.there)))) | assumption) (by first | exact St.rdT hS (by assumption) | exact OwT.rd (hS.rd (A := OwT _ _ _) (by (repeat (first | exact At.here | apply At.there)))) | assumption) (by omega)) (h := ?_)); clear hk a; rintro _ w ⟨rfl, hS1⟩ a hk; replace hS := hS.call0 hS1; clear hS1
  (repeat' (first | (show wpListIn _ _ _ _ _ (_ :: _) _ _; first | (refine wx1 ?_; clear hk a; intro a hk) | (refine wx2 ?_ ?_ <;> (intro hp; clear hk a; intro a hk)) | (refine wx3 ?_; clear hk hS a; intro w b hS a hk) | (refine wx4 ?_; clear hk hS a; intro w hS a hk) | (refine wx5 ?_; clear hk hS a; intro w v hS a hk) | fail) | refine wx0 ?_ | (refine s_end hk ?_; clear hk a; intro a hk) | fail))
  exact done1 hk (h := ⟨rfl, hS.nil⟩)

set_option maxHeartbeats 1000000 in
theorem equalS_any (xs ys : List PrS) (vx vy : Value) (w0 : World) (hx : SlT xs vx w0) (hy : SlT ys vy w0) (hl : xs.length ≤ 1000) :
    Calls Try.prog 54 #[vx, vy] w0 (Ret fun v w => v = .bool (decide (xs = ys)) ∧ St w0 [] w) := by
  refine enter Try.func54 rfl Try.ntmps54 rfl (fun a hk => ?_); have hS := St.refl w0
  (repeat' (first | (show wpListIn _ _ _ _ _ (_ :: _) _ _; first | (refine wx1 ?_; clear hk a; intro a hk) | (refine wx2 ?_ ?_ <;> (intro hp; clear hk a; intro a hk)) | (refine wx3 ?_; clear hk hS a; intro w b hS a hk) | (refine wx4 ?_; clear hk hS a; intro w hS a hk) | (refine wx5 ?_; clear hk hS a; intro w v hS a hk) | fail) | refine wx0 ?_ | (refine s_end hk ?_; clear hk a; intro a hk) | fail))
  · replace hk := Kn.kp [0, 1, 12, 13] hk
    refine wp_for xs.length (fun i _ => [(13, .int .i64 (i : Int))]) (fun _ _ => []) (fun i _ => ∀ j, j < i → xs[j]? = ys[j]?) () hk (by repeat (first | exact trivial | refine ⟨rfl, ?_⟩)) hS (fun j hj => by omega) ?_
    clear hk hS a
    rintro i - a w hi hk hS hF
    by_cases hil : i < xs.length
    · (repeat' (first | (show wpListIn _ _ _ _ _ (_ :: _) _ _; first | (refine wx1 ?_; clear hk a; intro a hk) | (refine wx2 ?_ ?_ <;> (intro hp; clear hk a; intro a hk)) | (refine wx3 ?_; clear hk hS a; intro w b hS a hk) | (refine wx4 ?_; clear hk hS a; intro w hS a hk) | (refine wx5 ?_; clear hk hS a; intro w v hS a hk) | fail) | refine wx0 ?_ | (refine s_end hk ?_; clear hk a; intro a hk) | fail))
      refine wp_drawn 8 mixed (by kernel_rfl) hk hS ?_; clear hk hS a
      (repeat' (first | (show ObxE _ _ _ _ _ _ _ _ _ (_ :: _) _ _ _; first | refine ox1 ?_ | (refine ox2 ?_ ?_ <;> intro hp) | fail) | fail))
      refine obe_nil ⟨rfl, ?_⟩; intro us a w hk hS
      (repeat' (first | (show wpListIn _ _ _ _ _ (_ :: _) _ _; first | (refine wx1 ?_; clear hk a; intro a hk) | (refine wx2 ?_ ?_ <;> (intro hp; clear hk a; intro a hk)) | (refine wx3 ?_; clear hk hS a; intro w b hS a hk) | (refine wx4 ?_; clear hk hS a; intro w hS a hk) | (refine wx5 ?_; clear hk hS a; intro w v hS a hk) | fail) | refine wx0 ?_ | (refine s_end hk ?_; clear hk a; intro a hk) | fail))
      · have he := eqC_enc (x := xs[i]'hil) (y := ys[i]'(by omega)) (by assumption)
        rw [if_pos rfl] at he
        refine ⟨hil, (), hk.sd, hS, fun j hj => ?_⟩
        by_cases e : j = i
        · subst e
          rw [List.getElem?_eq_getElem hil, List.getElem?_eq_getElem (by omega), he]
        · exact hF j (by omega)
      · have he := eqC_enc (x := xs[i]'hil) (y := ys[i]'(by omega)) (by assumption)
        rw [if_neg (by decide)] at he
        refine done1 hk (h := ⟨?_, hS.nil⟩)
        rw [decide_eq_false]
        intro e
        subst e
        exact he rfl
    · (repeat' (first | (show wpListIn _ _ _ _ _ (_ :: _) _ _; first | (refine wx1 ?_; clear hk a; intro a hk) | (refine wx2 ?_ ?_ <;> (intro hp; clear hk a; intro a hk)) | (refine wx3 ?_; clear hk hS a; intro w b hS a hk) | (refine wx4 ?_; clear hk hS a; intro w hS a hk) | (refine wx5 ?_; clear hk hS a; intro w v hS a hk) | fail) | refine wx0 ?_ | (refine s_end hk ?_; clear hk a; intro a hk) | fail))
      refine done1 hk (h := ⟨?_, hS.nil⟩)
      rw [decide_eq_true]
      apply List.ext_getElem?
      intro j
      by_cases hj : j < i
      · exact hF j hj
      · rw [List.getElem?_eq_none (by omega), List.getElem?_eq_none (by omega)]
  · refine done1 hk (h := ⟨?_, hS.nil⟩)
    rw [decide_eq_false]
    intro e
    subst e
    have : ¬ ((xs.length : Nat) : Int) = ((xs.length : Nat) : Int) := by assumption
    exact this rfl

theorem sameS_any (l m : List PrS) (v u : Value) (w0 : World) (hv : SlT l v w0) (hu : SlT m u w0) (hl : l.length ≤ 1000) (hm : m.length ≤ 1000) :
    Calls Try.prog 35 #[v, u] w0 (Ret fun v w => v = .bool (decide (snapF nmS l = snapF nmS m)) ∧ St w0 [] w) := by
  have hsl := snap_len nmS l
  refine enter Try.func35 rfl Try.ntmps35 rfl (fun a hk => ?_); have hS := St.refl w0
  (repeat' (first | (show wpListIn _ _ _ _ _ (_ :: _) _ _; first | (refine wx1 ?_; clear hk a; intro a hk) | (refine wx2 ?_ ?_ <;> (intro hp; clear hk a; intro a hk)) | (refine wx3 ?_; clear hk hS a; intro w b hS a hk) | (refine wx4 ?_; clear hk hS a; intro w hS a hk) | (refine wx5 ?_; clear hk hS a; intro w v hS a hk) | fail) | refine wx0 ?_ | (refine s_end hk ?_; clear hk a; intro a hk) | fail))
  refine sg hk (g_callO hk (hf := by kernel_rfl) (hc := ofS_any l v _ (hS.rdT hv) hl) (h := ?_)); clear hk a; rintro vs w hS1 a hk; replace hS := hS.call hS1; clear hS1
  (repeat' (first | (show wpListIn _ _ _ _ _ (_ :: _) _ _; first | (refine wx1 ?_; clear hk a; intro a hk) | (refine wx2 ?_ ?_ <;> (intro hp; clear hk a; intro a hk)) | (refine wx3 ?_; clear hk hS a; intro w b hS a hk) | (refine wx4 ?_; clear hk hS a; intro w hS a hk) | (refine wx5 ?_; clear hk hS a; intro w v hS a hk) | fail) | refine wx0 ?_ | (refine s_end hk ?_; clear hk a; intro a hk) | fail))
  refine sg hk (g_callO hk (hf := by kernel_rfl) (hc := ofS_any m u _ (hS.rdT hu) hm) (h := ?_)); clear hk a; rintro vt w hS1 a hk; replace hS := hS.call hS1; clear hS1
  (repeat' (first | (show wpListIn _ _ _ _ _ (_ :: _) _ _; first | (refine wx1 ?_; clear hk a; intro a hk) | (refine wx2 ?_ ?_ <;> (intro hp; clear hk a; intro a hk)) | (refine wx3 ?_; clear hk hS a; intro w b hS a hk) | (refine wx4 ?_; clear hk hS a; intro w hS a hk) | (refine wx5 ?_; clear hk hS a; intro w v hS a hk) | fail) | refine wx0 ?_ | (refine s_end hk ?_; clear hk a; intro a hk) | fail))
  refine sg hk (g_callO hk (hf := by kernel_rfl) (hc := equalS_any _ _ vs vt _ (by first | exact St.rdT hS (by assumption) | exact OwT.rd (hS.rd (A := OwT _ _ _) (by (repeat (first | exact At.here | apply At.there)))) | assumption) (by first | exact St.rdT hS (by assumption) | exact OwT.rd (hS.rd (A := OwT _ _ _) (by (repeat (first | exact At.here | apply At.there)))) | assumption) (by omega)) (h := ?_)); clear hk a; rintro _ w ⟨rfl, hS1⟩ a hk; replace hS := hS.call0 hS1; clear hS1
  (repeat' (first | (show wpListIn _ _ _ _ _ (_ :: _) _ _; first | (refine wx1 ?_; clear hk a; intro a hk) | (refine wx2 ?_ ?_ <;> (intro hp; clear hk a; intro a hk)) | (refine wx3 ?_; clear hk hS a; intro w b hS a hk) | (refine wx4 ?_; clear hk hS a; intro w hS a hk) | (refine wx5 ?_; clear hk hS a; intro w v hS a hk) | fail) | refine wx0 ?_ | (refine s_end hk ?_; clear hk a; intro a hk) | fail))
  exact done1 hk (h := ⟨rfl, hS.nil⟩)

set_option maxHeartbeats 1000000 in
theorem equalC_any (xs ys : List ByteArray) (vx vy : Value) (w0 : World) (hx : SlT xs vx w0) (hy : SlT ys vy w0) (hl : xs.length ≤ 1000) :
    Calls Try.prog 53 #[vx, vy] w0 (Ret fun v w => v = .bool (decide (xs = ys)) ∧ St w0 [] w) := by
  refine enter Try.func53 rfl Try.ntmps53 rfl (fun a hk => ?_); have hS := St.refl w0
  (repeat' (first | (show wpListIn _ _ _ _ _ (_ :: _) _ _; first | (refine wx1 ?_; clear hk a; intro a hk) | (refine wx2 ?_ ?_ <;> (intro hp; clear hk a; intro a hk)) | (refine wx3 ?_; clear hk hS a; intro w b hS a hk) | (refine wx4 ?_; clear hk hS a; intro w hS a hk) | (refine wx5 ?_; clear hk hS a; intro w v hS a hk) | fail) | refine wx0 ?_ | (refine s_end hk ?_; clear hk a; intro a hk) | fail))
  · replace hk := Kn.kp [0, 1, 12, 13] hk
    refine wp_for xs.length (fun i _ => [(13, .int .i64 (i : Int))]) (fun _ _ => []) (fun i _ => ∀ j, j < i → xs[j]? = ys[j]?) () hk (by repeat (first | exact trivial | refine ⟨rfl, ?_⟩)) hS (fun j hj => by omega) ?_
    clear hk hS a
    rintro i - a w hi hk hS hF
    by_cases hil : i < xs.length
    · (repeat' (first | (show wpListIn _ _ _ _ _ (_ :: _) _ _; first | (refine wx1 ?_; clear hk a; intro a hk) | (refine wx2 ?_ ?_ <;> (intro hp; clear hk a; intro a hk)) | (refine wx3 ?_; clear hk hS a; intro w b hS a hk) | (refine wx4 ?_; clear hk hS a; intro w hS a hk) | (refine wx5 ?_; clear hk hS a; intro w v hS a hk) | fail) | refine wx0 ?_ | (refine s_end hk ?_; clear hk a; intro a hk) | fail))
      refine wp_drawn 8 mixed (by kernel_rfl) hk hS ?_; clear hk hS a
      (repeat' (first | (show ObxE _ _ _ _ _ _ _ _ _ (_ :: _) _ _ _; first | refine ox1 ?_ | (refine ox2 ?_ ?_ <;> intro hp) | fail) | fail))
      refine obe_nil ⟨rfl, ?_⟩; intro us a w hk hS
      (repeat' (first | (show wpListIn _ _ _ _ _ (_ :: _) _ _; first | (refine wx1 ?_; clear hk a; intro a hk) | (refine wx2 ?_ ?_ <;> (intro hp; clear hk a; intro a hk)) | (refine wx3 ?_; clear hk hS a; intro w b hS a hk) | (refine wx4 ?_; clear hk hS a; intro w hS a hk) | (refine wx5 ?_; clear hk hS a; intro w v hS a hk) | fail) | refine wx0 ?_ | (refine s_end hk ?_; clear hk a; intro a hk) | fail))
      · have he : xs[i]'hil = ys[i]'(by omega) := by assumption
        refine ⟨hil, (), hk.sd, hS, fun j hj => ?_⟩
        by_cases e : j = i
        · subst e
          rw [List.getElem?_eq_getElem hil, List.getElem?_eq_getElem (by omega), he]
        · exact hF j (by omega)
      · have he : ¬ xs[i]'hil = ys[i]'(by omega) := by assumption
        refine done1 hk (h := ⟨?_, hS.nil⟩)
        rw [decide_eq_false]
        intro e
        subst e
        exact he rfl
    · (repeat' (first | (show wpListIn _ _ _ _ _ (_ :: _) _ _; first | (refine wx1 ?_; clear hk a; intro a hk) | (refine wx2 ?_ ?_ <;> (intro hp; clear hk a; intro a hk)) | (refine wx3 ?_; clear hk hS a; intro w b hS a hk) | (refine wx4 ?_; clear hk hS a; intro w hS a hk) | (refine wx5 ?_; clear hk hS a; intro w v hS a hk) | fail) | refine wx0 ?_ | (refine s_end hk ?_; clear hk a; intro a hk) | fail))
      refine done1 hk (h := ⟨?_, hS.nil⟩)
      rw [decide_eq_true]
      apply List.ext_getElem?
      intro j
      by_cases hj : j < i
      · exact hF j hj
      · rw [List.getElem?_eq_none (by omega), List.getElem?_eq_none (by omega)]
  · refine done1 hk (h := ⟨?_, hS.nil⟩)
    rw [decide_eq_false]
    intro e
    subst e
    have : ¬ ((xs.length : Nat) : Int) = ((xs.length : Nat) : Int) := by assumption
    exact this rfl


theorem cSame_any (xs ys : List ByteArray) (vx vy : Value) (w0 : World) (hx : SlT xs vx w0) (hy : SlT ys vy w0) (hl : xs.length ≤ 1000) :
    Calls Try.prog 34 #[vx, vy] w0 (Ret fun v w => v = .bool (decide (xs = ys)) ∧ St w0 [] w) := by
  refine enter Try.func34 rfl Try.ntmps34 rfl (fun a hk => ?_); have hS := St.refl w0
  (repeat' (first | (show wpListIn _ _ _ _ _ (_ :: _) _ _; first | (refine wx1 ?_; clear hk a; intro a hk) | (refine wx2 ?_ ?_ <;> (intro hp; clear hk a; intro a hk)) | (refine wx3 ?_; clear hk hS a; intro w b hS a hk) | (refine wx4 ?_; clear hk hS a; intro w hS a hk) | (refine wx5 ?_; clear hk hS a; intro w v hS a hk) | fail) | refine wx0 ?_ | (refine s_end hk ?_; clear hk a; intro a hk) | fail))
  refine sg hk (g_callO hk (hf := by kernel_rfl) (hc := equalC_any xs ys vx vy _ (hS.rdT hx) (hS.rdT hy) hl) (h := ?_)); clear hk a; rintro _ w ⟨rfl, hS1⟩ a hk; replace hS := hS.call0 hS1; clear hS1
  (repeat' (first | (show wpListIn _ _ _ _ _ (_ :: _) _ _; first | (refine wx1 ?_; clear hk a; intro a hk) | (refine wx2 ?_ ?_ <;> (intro hp; clear hk a; intro a hk)) | (refine wx3 ?_; clear hk hS a; intro w b hS a hk) | (refine wx4 ?_; clear hk hS a; intro w hS a hk) | (refine wx5 ?_; clear hk hS a; intro w v hS a hk) | fail) | refine wx0 ?_ | (refine s_end hk ?_; clear hk a; intro a hk) | fail))
  exact done1 hk (h := ⟨rfl, hS.nil⟩)

set_option maxHeartbeats 4000000 in
theorem eqFunc_any (f : FuncId) (hf : callable Try.prog f = true) (ts us : List Tree) (H G : List NdH) (v u : Value) (w0 : World) (hv : SlT H v w0) (hu : SlT G u w0) (hF : FoR w0 ts H) (hG : FoR w0 us G) (hlen : ts.length ≤ 1000)
    (hc : ∀ (i : Nat) (t t' : Tree) (hd gd : NdH) (w : World), ts[i]? = some t → us[i]? = some t' → TrR w t hd → TrR w t' gd → Calls Try.prog f #[ndV hd, ndV gd] w (Ret fun r w' => r = .bool (samT t t') ∧ St w [] w')) :
    Calls Try.prog 37 #[v, u, .func (.func f) #[] #[]] w0 (Ret fun r w => r = .bool (samL ts us) ∧ St w0 [] w) := by
  have hHk : H.length = ts.length := hF.1
  have hGk : G.length = us.length := hG.1
  have hiff := samL_iff ts us
  refine enter Try.func37 rfl Try.ntmps37 rfl (fun a hk => ?_); have hS := St.refl w0
  by_cases hln : H.length = G.length
  · (repeat' (first | (show wpListIn _ _ _ _ _ (_ :: _) _ _; first | (refine wx1 ?_; clear hk a; intro a hk) | (refine wx2 ?_ ?_ <;> (intro hp; clear hk a; intro a hk)) | (refine wx3 ?_; clear hk hS a; intro w b hS a hk) | (refine wx4 ?_; clear hk hS a; intro w hS a hk) | (refine wx5 ?_; clear hk hS a; intro w v hS a hk) | fail) | refine wx0 ?_ | (refine s_end hk ?_; clear hk a; intro a hk) | fail))
    replace hk := Kn.kp [1, 2, 15, 16, 17] hk
    refine wp_for H.length (fun i _ => [(17, .int .i64 (i : Int))]) (fun _ _ => []) (fun i _ => ∀ (j : Nat) (t u : Tree), j < i → ts[j]? = some t → us[j]? = some u → samT t u = true) () hk (by repeat (first | exact trivial | refine ⟨rfl, ?_⟩)) hS.sb (fun j t u hj => by omega) ?_
    clear hk hS a
    rintro i - a w hi hk hS hEq
    have hv1 := hS.rdT hv
    have hu1 := hS.rdT hu
    by_cases hil : i < H.length
    · obtain ⟨tk, htk⟩ : ∃ t, ts[i]? = some t := ⟨_, List.getElem?_eq_getElem (by omega)⟩
      obtain ⟨uk, huk⟩ : ∃ t, us[i]? = some t := ⟨_, List.getElem?_eq_getElem (by omega)⟩
      obtain ⟨hd0, hx⟩ : ∃ x, H[i]? = some x := ⟨_, List.getElem?_eq_getElem hil⟩
      obtain ⟨gd0, hy⟩ : ∃ x, G[i]? = some x := ⟨_, List.getElem?_eq_getElem (by omega)⟩
      have hTr := hF.2 i tk hd0 htk hx
      have hTu := hG.2 i uk gd0 huk hy
      obtain ⟨k0, tag0, key0, text0, ⟨x1, x2, x3⟩, ⟨y1, y2, y3⟩, ⟨z1, z2, z3⟩, ⟨e0, lv0, m0, d0, p0, q0⟩, ⟨u1, u2, u3⟩⟩ := hd0
      obtain ⟨k9, tag9, key9, text9, ⟨x19, x29, x39⟩, ⟨y19, y29, y39⟩, ⟨z19, z29, z39⟩, ⟨e9, lv9, m9, d9, p9, q9⟩, ⟨u19, u29, u39⟩⟩ := gd0
      have hcall := fun w h1 h2 => hc i tk uk (k0, tag0, key0, text0, ⟨x1, x2, x3⟩, ⟨y1, y2, y3⟩, ⟨z1, z2, z3⟩, (e0, lv0, m0, d0, p0, q0), ⟨u1, u2, u3⟩) (k9, tag9, key9, text9, ⟨x19, x29, x39⟩, ⟨y19, y29, y39⟩, ⟨z19, z29, z39⟩, (e9, lv9, m9, d9, p9, q9), ⟨u19, u29, u39⟩) w htk huk h1 h2
      (repeat' (first | (show wpListIn _ _ _ _ _ (_ :: _) _ _; first | (refine wx1 ?_; clear hk a; intro a hk) | (refine wx2 ?_ ?_ <;> (intro hp; clear hk a; intro a hk)) | (refine wx3 ?_; clear hk hS a; intro w b hS a hk) | (refine wx4 ?_; clear hk hS a; intro w hS a hk) | (refine wx5 ?_; clear hk hS a; intro w v hS a hk) | fail) | refine wx0 ?_ | (refine s_end hk ?_; clear hk a; intro a hk) | fail))
      refine sg hk (g_callvO (first := []) (cap := []) hk (hf := hf) (hc := hcall _ (hS.rdTr hTr) (hS.rdTr hTu)) (h := ?_)); clear hk a; rintro _ w2 ⟨rfl, hS1⟩ a hk; replace hS := hS.call0 hS1; clear hS1
      cases hs : samT tk uk with
      | true =>
        rw [hs] at hk
        (repeat' (first | (show wpListIn _ _ _ _ _ (_ :: _) _ _; first | (refine wx1 ?_; clear hk a; intro a hk) | (refine wx2 ?_ ?_ <;> (intro hp; clear hk a; intro a hk)) | (refine wx3 ?_; clear hk hS a; intro w b hS a hk) | (refine wx4 ?_; clear hk hS a; intro w hS a hk) | (refine wx5 ?_; clear hk hS a; intro w v hS a hk) | fail) | refine wx0 ?_ | (refine s_end hk ?_; clear hk a; intro a hk) | fail))
        refine ⟨hil, (), hk.sd, hS.sb, fun j t u hj ht hu => ?_⟩
        by_cases e : j = i
        · subst e
          rw [htk] at ht
          rw [huk] at hu
          cases ht
          cases hu
          exact hs
        · exact hEq j t u (by omega) ht hu
      | false =>
        rw [hs] at hk
        (repeat' (first | (show wpListIn _ _ _ _ _ (_ :: _) _ _; first | (refine wx1 ?_; clear hk a; intro a hk) | (refine wx2 ?_ ?_ <;> (intro hp; clear hk a; intro a hk)) | (refine wx3 ?_; clear hk hS a; intro w b hS a hk) | (refine wx4 ?_; clear hk hS a; intro w hS a hk) | (refine wx5 ?_; clear hk hS a; intro w v hS a hk) | fail) | refine wx0 ?_ | (refine s_end hk ?_; clear hk a; intro a hk) | fail))
        have : samL ts us = false := by
          cases h : samL ts us with
          | false => rfl
          | true => have := (hiff.1 h).2 i tk uk htk huk; rw [hs] at this; cases this
        exact done1 hk (h := ⟨by rw [this], hS.nil⟩)
    · have : i = H.length := by omega
      subst this
      (repeat' (first | (show wpListIn _ _ _ _ _ (_ :: _) _ _; first | (refine wx1 ?_; clear hk a; intro a hk) | (refine wx2 ?_ ?_ <;> (intro hp; clear hk a; intro a hk)) | (refine wx3 ?_; clear hk hS a; intro w b hS a hk) | (refine wx4 ?_; clear hk hS a; intro w hS a hk) | (refine wx5 ?_; clear hk hS a; intro w v hS a hk) | fail) | refine wx0 ?_ | (refine s_end hk ?_; clear hk a; intro a hk) | fail))
      exact done1 hk (h := ⟨by rw [hiff.2 ⟨by omega, fun j t u ht hu => hEq j t u (by have := lt_of_get ht; omega) ht hu⟩], hS.nil⟩)
  · (repeat' (first | (show wpListIn _ _ _ _ _ (_ :: _) _ _; first | (refine wx1 ?_; clear hk a; intro a hk) | (refine wx2 ?_ ?_ <;> (intro hp; clear hk a; intro a hk)) | (refine wx3 ?_; clear hk hS a; intro w b hS a hk) | (refine wx4 ?_; clear hk hS a; intro w hS a hk) | (refine wx5 ?_; clear hk hS a; intro w v hS a hk) | fail) | refine wx0 ?_ | (refine s_end hk ?_; clear hk a; intro a hk) | fail))
    have : samL ts us = false := by
      cases h : samL ts us with
      | false => rfl
      | true => have := (hiff.1 h).1; omega
    exact done1 hk (h := ⟨by rw [this], hS.nil⟩)
end Go.Proofs.Ytkcjkbnbblpomaa
namespace Go.Proofs.Ytkcjkbnbblpomaa
open Go.RowKit
set_option maxRecDepth 100000
attribute [local irreducible] Go.Code.wpIn Go.wpListIn Go.Calls Gives Go.Exit.then Go.Exit.inBlock Done ObxE

set_option maxHeartbeats 8000000 in
theorem vsame_any : ∀ (n : Nat) (t u : Tree) (h g : NdH) (w0 : World), SizeOf.sizeOf t < n → Fits t → Fits u → TrR w0 t h → TrR w0 u g → Calls Try.prog 14 #[ndV h, ndV g] w0 (Ret fun v w => v = .bool (samT t u) ∧ St w0 [] w)
  | 0, _, _, _, _, _, hn, _, _, _, _ => by omega
  | n + 1, t, u, h, g, w0, hn, hf, hf', hr, hr' => by
    have ih := vsame_any n
    obtain ⟨k, tag, key, text, cl, al, sl, e, lv, m, d, p, q, kids, a1, m1, a2, m2, a3, m3, a4, m4, H, rfl, rfl, c1, c2, c3, c4, hF⟩ := hr.split
    obtain ⟨k', tag', key', text', cl', al', sl', e', lv', m', d', p', q', kids', b1', n1, b2', n2, b3', n3, b4', n4, G, rfl, rfl, g1, g2, g3, g4, hG⟩ := hr'.split
    obtain ⟨l1, l2, l3, l4, l5⟩ := hf
    obtain ⟨l1', l2', l3', l4', l5'⟩ := hf'
    show Calls Try.prog 14 #[nodeV k tag key text a1 cl.length m1 a2 al.length m2 a3 sl.length m3 e lv m d p q a4 H.length m4, nodeV k' tag' key' text' b1' cl'.length n1 b2' al'.length n2 b3' sl'.length n3 e' lv' m' d' p' q' b4' G.length n4] w0 _
    have hiff := sam_iff (k := k) (k' := k') (tag := tag) (tag' := tag') (key := key) (key' := key') (text := text) (text' := text') (cl := cl) (cl' := cl') (al := al) (al' := al') (sl := sl) (sl' := sl') (o := (e, lv, m, d, p, q)) (o' := (e', lv', m', d', p', q')) (kids := kids) (kids' := kids')
    have hcs := fun w0 h1 h2 => cSame_any cl cl' (.slice a1 cl.length m1) (.slice b1' cl'.length n1) w0 h1 h2 (by omega)
    have hss := fun w0 h1 h2 => sameS_any al al' (.slice a2 al.length m2) (.slice b2' al'.length n2) w0 h1 h2 (by omega) (by omega)
    have hii := fun w0 h1 h2 => sameI_any sl sl' (.slice a3 sl.length m3) (.slice b3' sl'.length n3) w0 h1 h2 (by omega) (by omega)
    have hee := fun w0 h1 h2 h3 h4 => eqFunc_any 14 (by kernel_rfl) kids kids' H G (.slice a4 H.length m4) (.slice b4' G.length n4) w0 h1 h2 h3 h4 l4
      (fun i t t' hd gd w ht ht' h1 h2 => ih t t' hd gd w (by have := kid_lt (k := k) (tag := tag) (key := key) (text := text) (cl := cl) (at_ := al) (st := sl) (o := (e, lv, m, d, p, q)) (List.mem_of_getElem? ht); omega) (l5 t (List.mem_of_getElem? ht)) (l5' t' (List.mem_of_getElem? ht')) h1 h2)
    refine enter Try.func14 rfl Try.ntmps14 rfl (fun a hk => ?_); have hS := St.refl w0
    (repeat' (first | (show wpListIn _ _ _ _ _ (_ :: _) _ _; first | (refine wx1 ?_; clear hk a; intro a hk) | (refine wx2 ?_ ?_ <;> (intro hp; clear hk a; intro a hk)) | (refine wx3 ?_; clear hk hS a; intro w b hS a hk) | (refine wx4 ?_; clear hk hS a; intro w hS a hk) | (refine wx5 ?_; clear hk hS a; intro w v hS a hk) | fail) | refine wx0 ?_ | (refine s_end hk ?_; clear hk a; intro a hk) | fail))
    rotate_left
    all_goals try (
      refine done1 hk (h := ⟨congrArg Value.bool (sam_false fun hh => ?_).symm, hS.nil⟩)
      obtain ⟨⟨q1, q2, q3, q4, q5, q6, q7, q8⟩, q9⟩ := hiff.1 hh
      first
        | exact absurd q1 (by assumption)
        | exact absurd q2 (by assumption)
        | exact absurd q3 (by assumption)
        | exact absurd q4 (by assumption)
        | (simp only [Prod.mk.injEq] at q5; obtain ⟨rfl, rfl, rfl, rfl, rfl, rfl⟩ := q5; exact absurd ((eqC_self _).symm.trans (by assumption)) (by decide)))
    have ho : ((e, lv, m, d, p, q) : Opt) = (e', lv', m', d', p', q') := by
      have := eqC_enc (α := Opt) (x := (e, lv, m, d, p, q)) (y := (e', lv', m', d', p', q')) (b := true) (by assumption)
      rwa [if_pos rfl] at this
    have hb1 : k = k' := by assumption
    have hb2 : tag = tag' := by assumption
    have hb3 : key = key' := by assumption
    have hb4 : text = text' := by assumption
    by_cases hcl : cl = cl'
    · rw [decide_eq_true hcl] at hcs
      refine sg hk (g_callO hk (hf := by kernel_rfl) (hc := hcs _ (hS.rdT c1) (hS.rdT g1)) (h := ?_)); clear hk a; rintro _ w ⟨rfl, hS1⟩ a hk; replace hS := hS.call0 hS1; clear hS1
      (repeat' (first | (show wpListIn _ _ _ _ _ (_ :: _) _ _; first | (refine wx1 ?_; clear hk a; intro a hk) | (refine wx2 ?_ ?_ <;> (intro hp; clear hk a; intro a hk)) | (refine wx3 ?_; clear hk hS a; intro w b hS a hk) | (refine wx4 ?_; clear hk hS a; intro w hS a hk) | (refine wx5 ?_; clear hk hS a; intro w v hS a hk) | fail) | refine wx0 ?_ | (refine s_end hk ?_; clear hk a; intro a hk) | fail))
      by_cases hal : snapF nmS al = snapF nmS al'
      · rw [decide_eq_true hal] at hss
        refine sg hk (g_callO hk (hf := by kernel_rfl) (hc := hss _ (hS.rdT c2) (hS.rdT g2)) (h := ?_)); clear hk a; rintro _ w ⟨rfl, hS1⟩ a hk; replace hS := hS.call0 hS1; clear hS1
        (repeat' (first | (show wpListIn _ _ _ _ _ (_ :: _) _ _; first | (refine wx1 ?_; clear hk a; intro a hk) | (refine wx2 ?_ ?_ <;> (intro hp; clear hk a; intro a hk)) | (refine wx3 ?_; clear hk hS a; intro w b hS a hk) | (refine wx4 ?_; clear hk hS a; intro w hS a hk) | (refine wx5 ?_; clear hk hS a; intro w v hS a hk) | fail) | refine wx0 ?_ | (refine s_end hk ?_; clear hk a; intro a hk) | fail))
        by_cases hsl : snapF nmI sl = snapF nmI sl'
        · rw [decide_eq_true hsl] at hii
          refine sg hk (g_callO hk (hf := by kernel_rfl) (hc := hii _ (hS.rdT c3) (hS.rdT g3)) (h := ?_)); clear hk a; rintro _ w ⟨rfl, hS1⟩ a hk; replace hS := hS.call0 hS1; clear hS1
          (repeat' (first | (show wpListIn _ _ _ _ _ (_ :: _) _ _; first | (refine wx1 ?_; clear hk a; intro a hk) | (refine wx2 ?_ ?_ <;> (intro hp; clear hk a; intro a hk)) | (refine wx3 ?_; clear hk hS a; intro w b hS a hk) | (refine wx4 ?_; clear hk hS a; intro w hS a hk) | (refine wx5 ?_; clear hk hS a; intro w v hS a hk) | fail) | refine wx0 ?_ | (refine s_end hk ?_; clear hk a; intro a hk) | fail))
          refine sg hk (g_callO hk (hf := by kernel_rfl) (hc := hee _ (hS.rdT c4) (hS.rdT g4) (hS.rdFo hF) (hS.rdFo hG)) (h := ?_)); clear hk a; rintro _ w ⟨rfl, hS1⟩ a hk; replace hS := hS.call0 hS1; clear hS1
          (repeat' (first | (show wpListIn _ _ _ _ _ (_ :: _) _ _; first | (refine wx1 ?_; clear hk a; intro a hk) | (refine wx2 ?_ ?_ <;> (intro hp; clear hk a; intro a hk)) | (refine wx3 ?_; clear hk hS a; intro w b hS a hk) | (refine wx4 ?_; clear hk hS a; intro w hS a hk) | (refine wx5 ?_; clear hk hS a; intro w v hS a hk) | fail) | refine wx0 ?_ | (refine s_end hk ?_; clear hk a; intro a hk) | fail))
          refine done1 hk (h := ⟨congrArg Value.bool ?_, hS.nil⟩)
          cases hL : samL kids kids' with
          | true => exact (hiff.2 ⟨⟨hb1, hb2, hb3, hb4, ho, hcl, hal, hsl⟩, hL⟩).symm
          | false => exact (sam_false fun hh => by have := (hiff.1 hh).2; rw [hL] at this; cases this).symm
        · rw [decide_eq_false hsl] at hii
          refine sg hk (g_callO hk (hf := by kernel_rfl) (hc := hii _ (hS.rdT c3) (hS.rdT g3)) (h := ?_)); clear hk a; rintro _ w ⟨rfl, hS1⟩ a hk; replace hS := hS.call0 hS1; clear hS1
          (repeat' (first | (show wpListIn _ _ _ _ _ (_ :: _) _ _; first | (refine wx1 ?_; clear hk a; intro a hk) | (refine wx2 ?_ ?_ <;> (intro hp; clear hk a; intro a hk)) | (refine wx3 ?_; clear hk hS a; intro w b hS a hk) | (refine wx4 ?_; clear hk hS a; intro w hS a hk) | (refine wx5 ?_; clear hk hS a; intro w v hS a hk) | fail) | refine wx0 ?_ | (refine s_end hk ?_; clear hk a; intro a hk) | fail))
          exact done1 hk (h := ⟨congrArg Value.bool (sam_false fun hh => hsl (hiff.1 hh).1.2.2.2.2.2.2.2).symm, hS.nil⟩)
      · rw [decide_eq_false hal] at hss
        refine sg hk (g_callO hk (hf := by kernel_rfl) (hc := hss _ (hS.rdT c2) (hS.rdT g2)) (h := ?_)); clear hk a; rintro _ w ⟨rfl, hS1⟩ a hk; replace hS := hS.call0 hS1; clear hS1
        (repeat' (first | (show wpListIn _ _ _ _ _ (_ :: _) _ _; first | (refine wx1 ?_; clear hk a; intro a hk) | (refine wx2 ?_ ?_ <;> (intro hp; clear hk a; intro a hk)) | (refine wx3 ?_; clear hk hS a; intro w b hS a hk) | (refine wx4 ?_; clear hk hS a; intro w hS a hk) | (refine wx5 ?_; clear hk hS a; intro w v hS a hk) | fail) | refine wx0 ?_ | (refine s_end hk ?_; clear hk a; intro a hk) | fail))
        exact done1 hk (h := ⟨congrArg Value.bool (sam_false fun hh => hal (hiff.1 hh).1.2.2.2.2.2.2.1).symm, hS.nil⟩)
    · rw [decide_eq_false hcl] at hcs
      refine sg hk (g_callO hk (hf := by kernel_rfl) (hc := hcs _ (hS.rdT c1) (hS.rdT g1)) (h := ?_)); clear hk a; rintro _ w ⟨rfl, hS1⟩ a hk; replace hS := hS.call0 hS1; clear hS1
      (repeat' (first | (show wpListIn _ _ _ _ _ (_ :: _) _ _; first | (refine wx1 ?_; clear hk a; intro a hk) | (refine wx2 ?_ ?_ <;> (intro hp; clear hk a; intro a hk)) | (refine wx3 ?_; clear hk hS a; intro w b hS a hk) | (refine wx4 ?_; clear hk hS a; intro w hS a hk) | (refine wx5 ?_; clear hk hS a; intro w v hS a hk) | fail) | refine wx0 ?_ | (refine s_end hk ?_; clear hk a; intro a hk) | fail))
      exact done1 hk (h := ⟨congrArg Value.bool (sam_false fun hh => hcl (hiff.1 hh).1.2.2.2.2.2.1).symm, hS.nil⟩)
end Go.Proofs.Ytkcjkbnbblpomaa
namespace Go.Proofs.Ytkcjkbnbblpomaa
open Lib (decDigits itoa)

def digB (b : UInt8) : Bool := decide (48 ≤ b.toNat ∧ b.toNat ≤ 57)
def valL (l : List UInt8) : Nat := l.foldl (fun n b => 10 * n + (b.toNat - 48)) 0
def sgnL (L : List UInt8) : Bool := decide (L.head? = some 45)
def digL (L : List UInt8) : List UInt8 := if sgnL L then L.tail else L
def numL (L : List UInt8) : Int := if sgnL L then -((valL (digL L) : Nat) : Int) else ((valL (digL L) : Nat) : Int)
def badD (L : List UInt8) : Prop := digL L = [] ∨ 10 < (digL L).length ∨ (digL L).all digB = false
def zerD (L : List UInt8) : Prop := (digL L).head? = some 48 ∧ (1 < (digL L).length ∨ sgnL L = true)
def outR (m : Int) : Prop := m < -2147483648 ∨ 2147483647 < m
instance (L : List UInt8) : Decidable (badD L) := by unfold badD; infer_instance
instance (L : List UInt8) : Decidable (zerD L) := by unfold zerD; infer_instance
instance (m : Int) : Decidable (outR m) := by unfold outR; infer_instance
def numP (L : List UInt8) : Int × Bool := if badD L ∨ zerD L ∨ outR (numL L) then (0, false) else (numL L, true)
end Go.Proofs.Ytkcjkbnbblpomaa
namespace Go.Proofs.Ytkcjkbnbblpomaa
open Go.RowKit
set_option maxRecDepth 100000
attribute [local irreducible] Go.Code.wpIn Go.wpListIn Go.Calls Gives Go.Exit.then Go.Exit.inBlock Done ObxE

def letB (b : UInt8) : Bool := decide (97 ≤ b.toNat ∧ b.toNat ≤ 122)
def plaB (b : UInt8) : Bool := decide ((97 ≤ b.toNat ∧ b.toNat ≤ 122) ∨ (48 ≤ b.toNat ∧ b.toNat ≤ 57) ∨ b.toNat = 45)
def visB (b : UInt8) : Bool := decide (32 < b.toNat ∧ b.toNat ≤ 126 ∧ b.toNat ≠ 39 ∧ b.toNat ≠ 40 ∧ b.toNat ≠ 41)
def priB (b : UInt8) : Bool := decide (32 ≤ b.toNat ∧ b.toNat ≤ 126 ∧ b.toNat ≠ 39)
theorem byte_at {s : ByteArray} {i : Nat} (h : i < s.size) : s.data.toList[i]? = some s[i] := by
  rw [List.getElem?_eq_getElem (by simpa using h)]
  congr 1
theorem all_take {s : ByteArray} {i : Nat} (h : i < s.size) (p : UInt8 → Bool) : (s.data.toList.take (i + 1)).all p = ((s.data.toList.take i).all p && p s[i]) := by
  rw [List.take_add_one, byte_at h, List.all_append]
  simp
theorem all_no {s : ByteArray} {i : Nat} (h : i < s.size) {p : UInt8 → Bool} (hp : p s[i] = false) : s.data.toList.all p = false := by
  have hs : s.data.toList = s.data.toList.take (i + 1) ++ s.data.toList.drop (i + 1) := (List.take_append_drop _ _).symm
  rw [hs, List.all_append, all_take h, hp]
  simp
theorem all_full (s : ByteArray) : s.data.toList.take s.size = s.data.toList := List.take_of_length_le (by simp)
theorem emp_iff {s : ByteArray} : s = ⟨#[]⟩ ↔ s.size = 0 := by
  constructor
  · rintro rfl; rfl
  · intro h
    cases s with
    | mk d => congr 1; exact Array.eq_empty_of_size_eq_zero h
def keyS (s : ByteArray) : Bool := decide (1 ≤ s.size ∧ s.size ≤ 16) && s.data.toList.all plaB
def nameS (s : ByteArray) : Bool := keyS s && (match s.data.toList with | [] => false | a :: _ => letB a)
def valS (s : ByteArray) : Bool := decide (s.size ≤ 32) && s.data.toList.all visB
def txtS (s : ByteArray) : Bool := decide (s.size ≤ 64) && s.data.toList.all priB
def rsvS (s : ByteArray) : Bool := decide (2 ≤ s.size ∧ s.extract 0 2 = ⟨#[116, 45]⟩)
def chkS (s : ByteArray) : Int := if nameS s then (if rsvS s then 6 else 0) else 2
theorem head_at {s : ByteArray} (h : 0 < s.size) : (match s.data.toList with | [] => false | a :: _ => letB a) = letB s[0] := by
  have := byte_at h
  cases hl : s.data.toList with
  | nil => rw [hl] at this; cases this
  | cons a r => rw [hl] at this; simp only [List.getElem?_cons_zero, Option.some.injEq] at this; rw [this]

end Go.Proofs.Ytkcjkbnbblpomaa
namespace Go.Proofs.Ytkcjkbnbblpomaa
open Go.RowKit

def namesL (cl : List ByteArray) (al : List PrS) (sl : List PrI) : List ByteArray := cl ++ al.map (·.1) ++ sl.map (·.1)
def lasts (n : Int) : Bool := decide (0 ≤ n ∧ n ≤ 1000)
def optsB (o : Opt) (k : Int) : Bool :=
  if k = 3 then lasts o.1 && lasts o.2.1 && lasts o.2.2.1 && decide (o.2.2.2.1 = 0)
  else if k = 4 then lasts o.1 && lasts o.2.1 && decide (o.2.2.1 = 0) && !o.2.2.2.2.2 && decide (0 ≤ o.2.2.2.1 ∧ o.2.2.2.1 ≤ 2)
  else decide (o = (0, 0, 0, 0, false, false))
def bareB (tag key : ByteArray) (cl : List ByteArray) (al : List PrS) (sl : List PrI) (o : Opt) (kids : List Tree) : Bool :=
  decide (tag = ⟨#[]⟩ ∧ key = ⟨#[]⟩ ∧ cl.length + al.length + sl.length + kids.length = 0 ∧ o = (0, 0, 0, 0, false, false))
def valB (al : List PrS) (sl : List PrI) : Bool := al.all (fun x => valS x.2) && sl.all (fun x => decide (-2147483648 ≤ x.2 ∧ x.2 ≤ 2147483647))
def Tree.key : Tree → ByteArray
  | .mk _ _ y _ _ _ _ _ _ => y
def kidB (t : Tree) : Bool := decide (t.kind = 2 ∧ t.key ≠ ⟨#[]⟩)
def keptB (k : Int) (kids : List Tree) : Bool := decide (k = 2) || (kids.all kidB && (decide (k = 3) || decide (kids.length ≤ 1)))
def mayB (k : Int) (tag key text : ByteArray) (cl : List ByteArray) (al : List PrS) (sl : List PrI) (o : Opt) (kids : List Tree) : Bool :=
  if k = 1 then bareB tag key cl al sl o kids && txtS text
  else if k = 2 ∨ k = 3 ∨ k = 4 then decide (text = ⟨#[]⟩) && nameS tag && (namesL cl al sl).all nameS && (decide (key = ⟨#[]⟩) || keyS key) && valB al sl && optsB o k && keptB k kids
  else false
def cntK (c : ByteArray) (ks : List ByteArray) : Nat := ks.countP (fun x => decide (x = c))
def twcB (ks : List ByteArray) : Bool := ks.any (fun c => decide (c ≠ ⟨#[]⟩ ∧ 1 < cntK c ks))

mutual
def chkT : Tree → Int → Int → Int → Int × Int
  | .mk k tag key text cl al sl o kids, deep, depth, left =>
    if depth < deep then (7, left - 1)
    else if left - 1 < 0 then (8, left - 1)
    else if mayB k tag key text cl al sl o kids = false then (4, left - 1)
    else if (namesL cl al sl).any rsvS = true then (6, left - 1)
    else if twcB (kids.map Tree.key) = true then (5, left - 1)
    else chkL kids (deep + 1) depth (left - 1)
def chkL : List Tree → Int → Int → Int → Int × Int
  | [], _, _, left => (0, left)
  | t :: ts, deep, depth, left => if (chkT t deep depth left).1 = 0 then chkL ts deep depth (chkT t deep depth left).2 else chkT t deep depth left
end
theorem chkL_app : ∀ (ts us : List Tree) (deep depth left : Int), chkL (ts ++ us) deep depth left = if (chkL ts deep depth left).1 = 0 then chkL us deep depth (chkL ts deep depth left).2 else chkL ts deep depth left
  | [], us, deep, depth, left => by simp [chkL]
  | t :: ts, us, deep, depth, left => by
    rw [List.cons_append, chkL, chkL, chkL_app ts us]
    by_cases h : (chkT t deep depth left).1 = 0
    · rw [if_pos h, if_pos h]
    · rw [if_neg h, if_neg h, if_neg h]
theorem chkL_snoc (ts : List Tree) (t : Tree) (deep depth left : Int) (h : (chkL ts deep depth left).1 = 0) : chkL (ts ++ [t]) deep depth left = chkT t deep depth (chkL ts deep depth left).2 := by
  rw [chkL_app, if_pos h, chkL, chkL]
  split
  · rename_i h2
    exact Prod.ext h2.symm rfl
  · rfl
inductive Siz (X : Nat) : Tree → Prop
  | mk {k : Int} {tag key text : ByteArray} {cl : List ByteArray} {al : List (ByteArray × ByteArray)} {sl : List (ByteArray × Int)} {o : Opt} {kids : List Tree}
    (h1 : tag.size ≤ X) (h2 : key.size ≤ X) (h3 : text.size ≤ X) (h4 : ∀ c ∈ cl, c.size ≤ X) (h5 : ∀ x ∈ al, x.1.size ≤ X ∧ x.2.size ≤ X) (h6 : ∀ x ∈ sl, x.1.size ≤ X) (h7 : ∀ t ∈ kids, Siz X t) : Siz X (.mk k tag key text cl al sl o kids)
theorem Siz.names {X : Nat} {cl : List ByteArray} {al : List PrS} {sl : List PrI} (h4 : ∀ c ∈ cl, c.size ≤ X) (h5 : ∀ x ∈ al, x.1.size ≤ X ∧ x.2.size ≤ X) (h6 : ∀ x ∈ sl, x.1.size ≤ X) : ∀ c ∈ namesL cl al sl, c.size ≤ X := by
  intro c hc
  unfold namesL at hc
  rcases List.mem_append.1 hc with h | h
  · rcases List.mem_append.1 h with h | h
    · exact h4 c h
    · obtain ⟨x, hx, rfl⟩ := List.mem_map.1 h; exact (h5 x hx).1
  · obtain ⟨x, hx, rfl⟩ := List.mem_map.1 h; exact h6 x hx
theorem Small.siz {t : Tree} (h : Small t) : Siz 70 t := by
  induction h with
  | mk h hk ih =>
    obtain ⟨_, h2, h3, h4, _, h5, _, h6, _, h7, _⟩ := h
    exact .mk (by omega) (by omega) h4 (fun c hc => by have := h5 c hc; omega) (fun x hx => by have := h6 x hx; omega) (fun x hx => by have := (h7 x hx).1; omega) ih
end Go.Proofs.Ytkcjkbnbblpomaa
namespace Go.Proofs.Ytkcjkbnbblpomaa
open Go.RowKit
set_option maxRecDepth 100000
attribute [local irreducible] Go.Code.wpIn Go.wpListIn Go.Calls Gives Go.Exit.then Go.Exit.inBlock Done ObxE

theorem prefix_any (s p : ByteArray) (w0 : World) : Calls Try.prog 95 #[.string s, .string p] w0 (Ret fun v w => v = .bool (decide (p.size ≤ s.size ∧ s.extract 0 p.size = p)) ∧ St w0 [] w) := by
  refine enter Try.func95 rfl Try.ntmps95 rfl (fun a hk => ?_); have hS := St.refl w0
  by_cases h : p.size ≤ s.size
  · (repeat' (first | (show wpListIn _ _ _ _ _ (_ :: _) _ _; first | (refine wx1 ?_; clear hk a; intro a hk) | (refine wx2 ?_ ?_ <;> (intro hp; clear hk a; intro a hk)) | (refine wx3 ?_; clear hk hS a; intro w b hS a hk) | (refine wx4 ?_; clear hk hS a; intro w hS a hk) | (refine wx5 ?_; clear hk hS a; intro w v hS a hk) | fail) | refine wx0 ?_ | (refine s_end hk ?_; clear hk a; intro a hk) | fail))
    all_goals first
      | exact done1 hk (h := ⟨by rw [decide_eq_true ⟨h, by simpa using (by assumption)⟩], hS.nil⟩)
      | exact done1 hk (h := ⟨by rw [decide_eq_false (fun e => absurd e.2 (by simpa using (by assumption)))], hS.nil⟩)
  · (repeat' (first | (show wpListIn _ _ _ _ _ (_ :: _) _ _; first | (refine wx1 ?_; clear hk a; intro a hk) | (refine wx2 ?_ ?_ <;> (intro hp; clear hk a; intro a hk)) | (refine wx3 ?_; clear hk hS a; intro w b hS a hk) | (refine wx4 ?_; clear hk hS a; intro w hS a hk) | (refine wx5 ?_; clear hk hS a; intro w v hS a hk) | fail) | refine wx0 ?_ | (refine s_end hk ?_; clear hk a; intro a hk) | fail))
    exact done1 hk (h := ⟨by rw [decide_eq_false (fun e => h e.1)], hS.nil⟩)
theorem hasPrefix_any (s p : ByteArray) (w0 : World) : Calls Try.prog 78 #[.string s, .string p] w0 (Ret fun v w => v = .bool (decide (p.size ≤ s.size ∧ s.extract 0 p.size = p)) ∧ St w0 [] w) := by
  refine enter Try.func78 rfl Try.ntmps78 rfl (fun a hk => ?_); have hS := St.refl w0
  (repeat' (first | (show wpListIn _ _ _ _ _ (_ :: _) _ _; first | (refine wx1 ?_; clear hk a; intro a hk) | (refine wx2 ?_ ?_ <;> (intro hp; clear hk a; intro a hk)) | (refine wx3 ?_; clear hk hS a; intro w b hS a hk) | (refine wx4 ?_; clear hk hS a; intro w hS a hk) | (refine wx5 ?_; clear hk hS a; intro w v hS a hk) | fail) | refine wx0 ?_ | (refine s_end hk ?_; clear hk a; intro a hk) | fail))
  refine sg hk (g_callO hk (hf := by kernel_rfl) (hc := prefix_any s p _) (h := ?_)); clear hk a; rintro _ w ⟨rfl, hS1⟩ a hk; replace hS := hS.call0 hS1; clear hS1
  (repeat' (first | (show wpListIn _ _ _ _ _ (_ :: _) _ _; first | (refine wx1 ?_; clear hk a; intro a hk) | (refine wx2 ?_ ?_ <;> (intro hp; clear hk a; intro a hk)) | (refine wx3 ?_; clear hk hS a; intro w b hS a hk) | (refine wx4 ?_; clear hk hS a; intro w hS a hk) | (refine wx5 ?_; clear hk hS a; intro w v hS a hk) | fail) | refine wx0 ?_ | (refine s_end hk ?_; clear hk a; intro a hk) | fail))
  exact done1 hk (h := ⟨rfl, hS.nil⟩)

end Go.Proofs.Ytkcjkbnbblpomaa
