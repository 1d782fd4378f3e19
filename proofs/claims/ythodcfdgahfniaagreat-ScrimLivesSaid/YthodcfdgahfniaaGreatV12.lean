/- Layers 17, 18: a job is asked for. Own slices, cut. Layer 16: the only timer is taken out. Layers 16, 18: the next timer; the clock. A region that draws its order, by hand: an operation that only gives a value may be taken first. More values that may be taken first in a region that draws its order; and cuts where orders meet. -/
import Derived.Test.YthodcfdgahfniaaGreatV11
import Derived.Test.YthodcfdgahfniaaGreatV07
import Derived.Test.YthodcfdgahfniaaGreatV08
set_option linter.all false
namespace Go.Proofs.YthodcfdgahfniaaGreat
open Go.RowKit
set_option maxRecDepth 100000
attribute [local irreducible] Go.Code.wpIn Go.wpListIn Go.Calls Gives Go.Exit.then Go.Exit.inBlock Done ObxE

def valH (c : Value) (A : HP) (v : Value) : HP := bagH (fun _ : Unit => [A]) (fun _ => v = c)
theorem valH.of {c : Value} {A : HP} {B : Bs} {w : World} {L : List HP} {v : Value} (hS : St B (A :: L) w) (e : v = c) : St B (valH c A v :: L) w := bagH.of (A := fun _ : Unit => [A]) (x := ()) hS e
theorem valH.eq {c : Value} {A : HP} {v : Value} {w : World} (h : (valH c A v).rd w) : v = c := let ⟨_, e, _⟩ := bagH.rd h; e
theorem St.val {c : Value} {A : HP} {v : Value} {B : Bs} {w : World} {L L' : List HP} (hS : St B L w) (hat : At (valH c A v) L L') : v = c ∧ St B (A :: L') w := let ⟨_, e, h⟩ := St.bag hS hat; ⟨e, h⟩

section
variable {B : Bs} {L : List HP} {w : World}
theorem qlen0_any {bq : Nat} {ql : Int} {a0 a1 : Option Addr} {c0 c1 : Nat} (w0 : World) (h1 : (pts bq [.int .i64 9, .int .i64 ql, .slice a0 0 c0, .slice a1 0 c1] 96).rd w0) :
    Calls Tryz.prog 40 #[ptV bq] w0 (Ret fun v w => v = .int .i64 0 ∧ St w0 [] w) := qlenP_any w0 (by omega) (by omega) h1
theorem qask_any {bq : Nat} {ql k : Int} (hql : 0 ≤ ql ∧ ql ≤ 1000000) (hS : St B (queueH bq ql .no :: L) w) :
    Calls Tryz.prog 78 #[ptV bq, .agg #[.int .i64 k, .int .i64 0]] w (Ret fun v w' => v = .tuple #[.int .i64 (ql + 1), .int .i64 0] ∧ St B (queueH bq (ql + 1) (.q1 (ql + 1) k) :: L) w') := by
  refine enter Tryz.func78 rfl Tryz.ntmps78 rfl (fun a hk => ?_)
  (repeat' (first | (show wpListIn _ _ _ _ _ (_ :: _) _ _; first | (refine wx1 ?_; clear hk a; intro a hk) | (refine wx2 ?_ ?_ <;> (intro hp; clear hk a; intro a hk)) | (refine wx3 ?_; clear hk hS a; intro w b hS a hk) | (refine wx4 ?_; clear hk hS a; intro w hS a hk) | (refine wx5 ?_; clear hk hS a; intro w v hS a hk) | fail) | refine wx0 ?_ | (refine s_end hk ?_; clear hk a; intro a hk) | fail))
  rename Nat => b5
  obtain ⟨a0, c0, a1, c1, hS1⟩ := hS.queue (bq := bq) (ql := ql) (x := .no) (by (repeat (first | exact At.here | apply At.there)))
  clear hS
  have hS := hS1
  clear hS1
  simp only [queueL, q0L, q1L, List.length_nil, List.cons_append, List.nil_append] at hS
  refine wp_drawn 7 mixed (by kernel_rfl) hk hS ?_; clear hk hS a
  (repeat' (first | (show ObxE _ _ _ _ _ _ _ _ _ (_ :: _) _ _ _; first | refine ox1 ?_ | (refine ox2 ?_ ?_ <;> intro hp) | fail) | fail))
  refine' obe_val (fun us a w hk hd hS => ?_) ?_; rotate_left; focus (have hk := Kn.vw hk (by repeat (first | exact VW.nil | apply VW.val rfl | apply VW.base rfl rfl | apply VW.res rfl | apply VW.upd rfl | apply VW.cpy rfl | apply VW.dep rfl | apply VW.fn rfl | apply VW.lnd rfl | apply VW.tak rfl)); exact g_callO hk (hf := by kernel_rfl) (hc := qlen0_any (bq := bq) (ql := ql) (a0 := a0) (a1 := a1) (c0 := c0) (c1 := c1) _ (hS.rd (by (repeat (first | exact At.here | apply At.there))))) (h := fun _ _ h => h))
  (repeat' (first | (show ObxE _ _ _ _ _ _ _ _ _ (_ :: _) _ _ _; first | refine ox1 ?_ | (refine ox2 ?_ ?_ <;> intro hp) | fail) | fail))
  refine obe_nil ⟨rfl, ?_⟩; intro us a w hk hS
  (repeat' (first | (show wpListIn _ _ _ _ _ (_ :: _) _ _; first | (refine wx1 ?_; clear hk a; intro a hk) | (refine wx2 ?_ ?_ <;> (intro hp; clear hk a; intro a hk)) | (refine wx3 ?_; clear hk hS a; intro w b hS a hk) | (refine wx4 ?_; clear hk hS a; intro w hS a hk) | (refine wx5 ?_; clear hk hS a; intro w v hS a hk) | fail) | refine wx0 ?_ | (refine s_end hk ?_; clear hk a; intro a hk) | fail))
  replace hk := Kn.kp [0, 3] hk
  replace hS := hS.sub (L' := OwT 99 ([] : List TmC) (.slice a1 0 c1) :: pts bq [.int .i64 9, .int .i64 (ql + 1), .slice a0 0 c0, .slice a1 0 c1] 96 :: OwT 99 ([] : List TmC) (.slice a0 0 c0) :: pts b5 [.int .i64 k, .int .i64 0] 72 :: L) (by (repeat (first | exact Sub.nil | exact Sub.refl | refine Sub.cons (by (repeat (first | exact At.here | apply At.there))) ?_)))
  refine wp_drawnU1 16 mixed (by kernel_rfl) hk hS ?_; clear hk hS a
  (repeat' (first | (show ObxE _ _ _ _ _ _ _ _ _ (_ :: _) _ _ _; first | refine ox1 ?_ | (refine ox2 ?_ ?_ <;> intro hp) | fail) | fail))
  refine' obe_res (fun us a w hk hd hS => ?_) ?_; rotate_left; focus (have hk := Kn.vw hk (by repeat (first | exact VW.nil | apply VW.val rfl | apply VW.base rfl rfl | apply VW.res rfl | apply VW.upd rfl | apply VW.cpy rfl | apply VW.dep rfl | apply VW.fn rfl | apply VW.lnd rfl | apply VW.tak rfl)); exact v_bsT (xs := [((ql + 1, 2, k, 0) : TmC)]) (m := 0) hk (hT := eT rfl) (hE := zT rfl) (hz := oT rfl))
  refine' obe_upd (OwT 99 ([] : List TmC) (.slice a1 0 c1)) (fun us a w X hk hd hS hL => ?_) ?_; rotate_left; focus (have hk := Kn.vw hk (by repeat (first | exact VW.nil | apply VW.val rfl | apply VW.base rfl rfl | apply VW.res rfl | apply VW.upd rfl | apply VW.cpy rfl | apply VW.dep rfl | apply VW.fn rfl | apply VW.lnd rfl | apply VW.tak rfl)); exact v_app hk hS (hT := eT rfl) (hTx := eT rfl) (hs := OwT.rd hd.2.1) (hE := zT rfl) (hz := oT rfl) (hzs := rfl) (hby := bT rfl) (hbytes := by simp only [List.length_cons, List.length_nil]; omega) (h63 := by simp only [List.length_cons, List.length_nil, maxLen]; omega))
  (repeat' (first | (show ObxE _ _ _ _ _ _ _ _ _ (_ :: _) _ _ _; first | refine ox1 ?_ | (refine ox2 ?_ ?_ <;> intro hp) | fail) | fail))
  refine obe_nil ⟨rfl, ?_⟩; intro us a w hk hS
  simp only [resE, List.cons_append, List.nil_append] at hS
  replace hk := Kn.kp [0, 33, 35] hk
  simp only [HV.of, Nat.zero_add, Nat.reduceAdd] at hk hS
  generalize us 13 = v33 at hS hk
  obtain ⟨aov33, cv33, hshp, _⟩ := (OwT.rd (hS.rd (A := OwT 99 _ v33) (by (repeat (first | exact At.here | apply At.there))))).shape; subst hshp
  (repeat' (first | (show wpListIn _ _ _ _ _ (_ :: _) _ _; first | (refine wx1 ?_; clear hk a; intro a hk) | (refine wx2 ?_ ?_ <;> (intro hp; clear hk a; intro a hk)) | (refine wx3 ?_; clear hk hS a; intro w b hS a hk) | (refine wx4 ?_; clear hk hS a; intro w hS a hk) | (refine wx5 ?_; clear hk hS a; intro w v hS a hk) | fail) | refine wx0 ?_ | (refine s_end hk ?_; clear hk a; intro a hk) | fail))
  refine done2R hk rfl (.tmp rfl) (.tmp rfl) (h := ⟨rfl, ?_⟩)
  exact queueH.of (a := a0) (c := c0) (a' := aov33) (c' := cv33) (hS.sub (.cons (by (repeat (first | exact At.here | apply At.there))) (.cons (by (repeat (first | exact At.here | apply At.there))) (.cons (by (repeat (first | exact At.here | apply At.there))) (by (repeat (first | exact Sub.refl | apply Sub.under)))))))
theorem second1_any {bq b2 b3 bs bw : Nat} {ql k now : Int} (hql : 0 ≤ ql ∧ ql ≤ 1000000)
    (hS : St B (queueH bq ql .no :: pts b2 [ptV bs] 31 :: pts b3 [.int .i64 k, .int .i64 0] 72 :: pts bs [.int .i64 now, .int .i64 9, ptV bw, ptV bq] 65 :: L) w) :
    Calls Tryz.prog 77 #[ptV b2, ptV b3] w (Ret fun v w' => v = .tuple #[.int .i64 (ql + 1), .int .i64 0] ∧ St B (queueH bq (ql + 1) (.q1 (ql + 1) k) :: pts b2 [ptV bs] 31 :: pts b3 [.int .i64 k, .int .i64 0] 72 :: pts bs [.int .i64 now, .int .i64 9, ptV bw, ptV bq] 65 :: L) w') := by
  refine enter Tryz.func77 rfl Tryz.ntmps77 rfl (fun a hk => ?_)
  (repeat' (first | (show wpListIn _ _ _ _ _ (_ :: _) _ _; first | (refine wx1 ?_; clear hk a; intro a hk) | (refine wx2 ?_ ?_ <;> (intro hp; clear hk a; intro a hk)) | (refine wx3 ?_; clear hk hS a; intro w b hS a hk) | (refine wx4 ?_; clear hk hS a; intro w hS a hk) | (refine wx5 ?_; clear hk hS a; intro w v hS a hk) | fail) | refine wx0 ?_ | (refine s_end hk ?_; clear hk a; intro a hk) | fail))
  refine wp_drawnU1 8 mixed (by kernel_rfl) hk hS ?_; clear hk hS a
  (repeat' (first | (show ObxE _ _ _ _ _ _ _ _ _ (_ :: _) _ _ _; first | refine ox1 ?_ | (refine ox2 ?_ ?_ <;> intro hp) | fail) | fail))
  refine' obe_upd (queueH bq ql .no) (V := valH (.tuple #[.int .i64 (ql + 1), .int .i64 0]) (queueH bq (ql + 1) (.q1 (ql + 1) k))) (fun us a w X hk hd hS hL => ?_) ?_
  · have hk := Kn.vw hk (by repeat (first | exact VW.nil | apply VW.val rfl | apply VW.base rfl rfl | apply VW.res rfl | apply VW.upd rfl | apply VW.cpy rfl | apply VW.dep rfl | apply VW.fn rfl | apply VW.lnd rfl | apply VW.tak rfl))
    exact g_callO hk (hf := by kernel_rfl) (hc := qask_any (bq := bq) (k := k) hql hS) (h := fun v w' h => valH.of h.2 h.1)
  refine' obe_val (c := .int .i64 (ql + 1)) (fun us a w hk hd hS => ?_) ?_
  · have hk := Kn.vw hk (by repeat (first | exact VW.nil | apply VW.val rfl | apply VW.base rfl rfl | apply VW.res rfl | apply VW.upd rfl | apply VW.cpy rfl | apply VW.dep rfl | apply VW.fn rfl | apply VW.lnd rfl | apply VW.tak rfl))
    have e := valH.eq hd.1
    simp only [Nat.zero_add, Nat.reduceAdd] at hk e
    rw [e] at hk
    exact g_ex0 hk (same _ _)
  refine' obe_val (c := .int .i64 0) (fun us a w hk hd hS => ?_) ?_
  · have hk := Kn.vw hk (by repeat (first | exact VW.nil | apply VW.val rfl | apply VW.base rfl rfl | apply VW.res rfl | apply VW.upd rfl | apply VW.cpy rfl | apply VW.dep rfl | apply VW.fn rfl | apply VW.lnd rfl | apply VW.tak rfl))
    have e := valH.eq hd.1
    simp only [Nat.zero_add, Nat.reduceAdd] at hk e
    rw [e] at hk
    exact g_ex1 hk (same _ _)
  refine obe_nil ⟨rfl, ?_⟩; intro us a w hk hS
  simp only [resE, List.cons_append, List.nil_append] at hS
  replace hk := Kn.kp [10, 11] hk
  simp only [HV.of, Nat.zero_add, Nat.reduceAdd] at hk hS
  obtain ⟨-, hS1⟩ := St.val hS .here
  (repeat' (first | (show wpListIn _ _ _ _ _ (_ :: _) _ _; first | (refine wx1 ?_; clear hk a; intro a hk) | (refine wx2 ?_ ?_ <;> (intro hp; clear hk a; intro a hk)) | (refine wx3 ?_; clear hk hS a; intro w b hS a hk) | (refine wx4 ?_; clear hk hS a; intro w hS a hk) | (refine wx5 ?_; clear hk hS a; intro w v hS a hk) | fail) | refine wx0 ?_ | (refine s_end hk ?_; clear hk a; intro a hk) | fail))
  exact done2R hk rfl (.tmp rfl) (.tmp rfl) (h := ⟨rfl, hS1⟩)
theorem after1_any {bw b2 b3 b4 bs bq : Nat} {wl k now d : Int} (hwl : 0 ≤ wl ∧ wl ≤ 1000000)
    (hS : St B (wheelH bw wl .no :: pts b2 [ptV bs] 31 :: pts b3 [.int .i64 d] 3 :: pts b4 [.int .i64 k, .int .i64 0] 72 :: pts bs [.int .i64 now, .int .i64 9, ptV bw, ptV bq] 65 :: L) w) :
    Calls Tryz.prog 79 #[ptV b2, ptV b3, ptV b4] w (Ret fun v w' => v = .tuple #[.int .i64 (wl + 1), .int .i64 0] ∧ St B (wheelH bw (wl + 1) (.tm (wl + 1) (max 0 (min (laterP now d) 1099511627776)) k) :: pts b2 [ptV bs] 31 :: pts b3 [.int .i64 d] 3 :: pts b4 [.int .i64 k, .int .i64 0] 72 :: pts bs [.int .i64 now, .int .i64 9, ptV bw, ptV bq] 65 :: L) w') := by
  refine enter Tryz.func79 rfl Tryz.ntmps79 rfl (fun a hk => ?_)
  (repeat' (first | (show wpListIn _ _ _ _ _ (_ :: _) _ _; first | (refine wx1 ?_; clear hk a; intro a hk) | (refine wx2 ?_ ?_ <;> (intro hp; clear hk a; intro a hk)) | (refine wx3 ?_; clear hk hS a; intro w b hS a hk) | (refine wx4 ?_; clear hk hS a; intro w hS a hk) | (refine wx5 ?_; clear hk hS a; intro w v hS a hk) | fail) | refine wx0 ?_ | (refine s_end hk ?_; clear hk a; intro a hk) | fail))
  refine wp_drawnU1 14 mixed (by kernel_rfl) hk hS ?_; clear hk hS a
  (repeat' (first | (show ObxE _ _ _ _ _ _ _ _ _ (_ :: _) _ _ _; first | refine ox1 ?_ | (refine ox2 ?_ ?_ <;> intro hp) | fail) | fail))
  refine' obe_val (fun us a w hk hd hS => ?_) ?_; rotate_left; focus (have hk := Kn.vw hk (by repeat (first | exact VW.nil | apply VW.val rfl | apply VW.base rfl rfl | apply VW.res rfl | apply VW.upd rfl | apply VW.cpy rfl | apply VW.dep rfl | apply VW.fn rfl | apply VW.lnd rfl | apply VW.tak rfl)); exact g_callO hk (hf := by kernel_rfl) (hc := later_any now d _) (h := fun _ _ h => h))
  (repeat' (first | (show ObxE _ _ _ _ _ _ _ _ _ (_ :: _) _ _ _; first | refine ox1 ?_ | (refine ox2 ?_ ?_ <;> intro hp) | fail) | fail))
  refine' obe_upd (wheelH bw wl .no) (V := valH (.tuple #[.int .i64 (wl + 1), .int .i64 0]) (wheelH bw (wl + 1) (.tm (wl + 1) (max 0 (min (laterP now d) 1099511627776)) k))) (fun us a w X hk hd hS hL => ?_) ?_
  · have hk := Kn.vw hk (by repeat (first | exact VW.nil | apply VW.val rfl | apply VW.base rfl rfl | apply VW.res rfl | apply VW.upd rfl | apply VW.cpy rfl | apply VW.dep rfl | apply VW.fn rfl | apply VW.lnd rfl | apply VW.tak rfl))
    exact g_callO hk (hf := by kernel_rfl) (hc := wadd_any (bw := bw) (dl := laterP now d) (k := k) hwl hS) (h := fun v w' h => valH.of h.2 h.1)
  refine' obe_val (c := .int .i64 (wl + 1)) (fun us a w hk hd hS => ?_) ?_
  · have hk := Kn.vw hk (by repeat (first | exact VW.nil | apply VW.val rfl | apply VW.base rfl rfl | apply VW.res rfl | apply VW.upd rfl | apply VW.cpy rfl | apply VW.dep rfl | apply VW.fn rfl | apply VW.lnd rfl | apply VW.tak rfl))
    have e := valH.eq hd.1
    simp only [Nat.zero_add, Nat.reduceAdd] at hk e
    rw [e] at hk
    exact g_ex0 hk (same _ _)
  refine' obe_val (c := .int .i64 0) (fun us a w hk hd hS => ?_) ?_
  · have hk := Kn.vw hk (by repeat (first | exact VW.nil | apply VW.val rfl | apply VW.base rfl rfl | apply VW.res rfl | apply VW.upd rfl | apply VW.cpy rfl | apply VW.dep rfl | apply VW.fn rfl | apply VW.lnd rfl | apply VW.tak rfl))
    have e := valH.eq hd.1
    simp only [Nat.zero_add, Nat.reduceAdd] at hk e
    rw [e] at hk
    exact g_ex1 hk (same _ _)
  refine obe_nil ⟨rfl, ?_⟩; intro us a w hk hS
  simp only [resE, List.cons_append, List.nil_append] at hS
  replace hk := Kn.kp [17, 18] hk
  simp only [HV.of, Nat.zero_add, Nat.reduceAdd] at hk hS
  obtain ⟨-, hS1⟩ := St.val hS .here
  (repeat' (first | (show wpListIn _ _ _ _ _ (_ :: _) _ _; first | (refine wx1 ?_; clear hk a; intro a hk) | (refine wx2 ?_ ?_ <;> (intro hp; clear hk a; intro a hk)) | (refine wx3 ?_; clear hk hS a; intro w b hS a hk) | (refine wx4 ?_; clear hk hS a; intro w hS a hk) | (refine wx5 ?_; clear hk hS a; intro w v hS a hk) | fail) | refine wx0 ?_ | (refine s_end hk ?_; clear hk a; intro a hk) | fail))
  exact done2R hk rfl (.tmp rfl) (.tmp rfl) (h := ⟨rfl, hS1⟩)
theorem later_clip (now d : Int) : max 0 (min (laterP now d) 1099511627776) = laterP now d := by unfold laterP; omega
theorem sadd_any {bs : Nat} {now wl ql wl' ql' tok : Int} {x' : Wt} {fr : Bool} {f : FuncId} {cap : List Value} (hf : callable Tryz.prog f = true) (hS : St B (schedH bs now wl ql .no :: L) w)
    (hc : ∀ (X : HP) (w : World), St B (schedH bs now wl ql .no :: X :: L) w → Calls Tryz.prog f cap.toArray w (Ret fun v w' => v = .tuple #[.int .i64 tok, .int .i64 0] ∧ St B (schedH bs now wl' ql' x' :: X :: L) w')) :
    Calls Tryz.prog 76 #[ptV bs, .bool fr, .func (.func f) #[] cap.toArray] w (Ret fun v w' => v = .tuple #[.agg #[.bool fr, .int .i64 tok], .int .i64 0] ∧ St B (schedH bs now wl' ql' x' :: L) w') := by
  refine enter Tryz.func76 rfl Tryz.ntmps76 rfl (fun a hk => ?_)
  (repeat' (first | (show wpListIn _ _ _ _ _ (_ :: _) _ _; first | (refine wx1 ?_; clear hk a; intro a hk) | (refine wx2 ?_ ?_ <;> (intro hp; clear hk a; intro a hk)) | (refine wx3 ?_; clear hk hS a; intro w b hS a hk) | (refine wx4 ?_; clear hk hS a; intro w hS a hk) | (refine wx5 ?_; clear hk hS a; intro w v hS a hk) | fail) | refine wx0 ?_ | (refine s_end hk ?_; clear hk a; intro a hk) | fail))
  rename Nat => b6
  obtain ⟨bw, bq, hS1⟩ := hS.sched (bs := bs) (now := now) (wl := wl) (ql := ql) (x := .no) (by (repeat (first | exact At.here | apply At.there)))
  clear hS
  have hS := hS1
  clear hS1
  simp only [schedL, List.cons_append, List.nil_append] at hS
  refine wp_drawn 6 mixed (by kernel_rfl) hk hS ?_; clear hk hS a
  (repeat' (first | (show ObxE _ _ _ _ _ _ _ _ _ (_ :: _) _ _ _; first | refine ox1 ?_ | (refine ox2 ?_ ?_ <;> intro hp) | fail) | fail))
  refine' obe_val (fun us a w hk hd hS => ?_) ?_; rotate_left; focus (have hk := Kn.vw hk (by repeat (first | exact VW.nil | apply VW.val rfl | apply VW.base rfl rfl | apply VW.res rfl | apply VW.upd rfl | apply VW.cpy rfl | apply VW.dep rfl | apply VW.fn rfl | apply VW.lnd rfl | apply VW.tak rfl)); exact g_callO hk (hf := by kernel_rfl) (hc := show Calls Tryz.prog 13 #[ptV bs] _ (Ret fun v w' => v = .int .i64 0 ∧ St _ [] w') from slenP_any (bw := bw) (bq := bq) (now := now) (wl := wl) (ql := ql) (x := .no) _ (hS.rd (by (repeat (first | exact At.here | apply At.there)))) (hS.rd (by (repeat (first | exact At.here | apply At.there)))) (hS.rd (by (repeat (first | exact At.here | apply At.there))))) (h := fun _ _ h => h))
  (repeat' (first | (show ObxE _ _ _ _ _ _ _ _ _ (_ :: _) _ _ _; first | refine ox1 ?_ | (refine ox2 ?_ ?_ <;> intro hp) | fail) | fail))
  refine obe_nil ⟨rfl, ?_⟩; intro us a w hk hS
  (repeat' (first | (show wpListIn _ _ _ _ _ (_ :: _) _ _; first | (refine wx1 ?_; clear hk a; intro a hk) | (refine wx2 ?_ ?_ <;> (intro hp; clear hk a; intro a hk)) | (refine wx3 ?_; clear hk hS a; intro w b hS a hk) | (refine wx4 ?_; clear hk hS a; intro w hS a hk) | (refine wx5 ?_; clear hk hS a; intro w v hS a hk) | fail) | refine wx0 ?_ | (refine s_end hk ?_; clear hk a; intro a hk) | fail))
  replace hS := schedH.of (bs := bs) (now := now) (wl := wl) (ql := ql) (x := .no) (bw := bw) (bq := bq) (L := pts b6 [.bool false, .int .i64 0] 34 :: L) (hS.sub (by (repeat (first | exact Sub.nil | exact Sub.refl | refine Sub.cons (by (repeat (first | exact At.here | apply At.there))) ?_))))
  have hcc := hc _ _ hS
  refine sg hk (g_callvO (first := []) (cap := cap) hk (hf := hf) (hc := by simpa using hcc) (h := ?_)); clear hk hS a hcc; rintro _ w ⟨rfl, hS⟩ a hk
  (repeat' (first | (show wpListIn _ _ _ _ _ (_ :: _) _ _; first | (refine wx1 ?_; clear hk a; intro a hk) | (refine wx2 ?_ ?_ <;> (intro hp; clear hk a; intro a hk)) | (refine wx3 ?_; clear hk hS a; intro w b hS a hk) | (refine wx4 ?_; clear hk hS a; intro w hS a hk) | (refine wx5 ?_; clear hk hS a; intro w v hS a hk) | fail) | refine wx0 ?_ | (refine s_end hk ?_; clear hk a; intro a hk) | fail))
  refine done2R hk rfl (.str hS (hT := aT rfl) (hs := zT rfl)) (.tmp rfl) (h := ⟨rfl, ?_⟩)
  exact hS.sub (.cons (by (repeat (first | exact At.here | apply At.there))) (by (repeat (first | exact Sub.refl | apply Sub.under))))
theorem second_any {bs : Nat} {now wl ql k : Int} (hql : 0 ≤ ql ∧ ql ≤ 1000000) (hS : St B (schedH bs now wl ql .no :: L) w) :
    Calls Tryz.prog 56 #[ptV bs, .agg #[.int .i64 k, .int .i64 0]] w (Ret fun v w' => v = .tuple #[.agg #[.bool true, .int .i64 (ql + 1)], .int .i64 0] ∧ St B (schedH bs now wl (ql + 1) (.q1 (ql + 1) k) :: L) w') := by
  refine enter Tryz.func56 rfl Tryz.ntmps56 rfl (fun a hk => ?_)
  refine wpIn_seq ?_; refine wpIn_region_lit ?_
  refine st_box hk hS ?_; clear hk hS a; intro w b2 hS a hk
  refine st_box hk hS ?_; clear hk hS a; intro w b3 hS a hk
  (repeat' (first | (show wpListIn _ _ _ _ _ (_ :: _) _ _; first | (refine wx1 ?_; clear hk a; intro a hk) | (refine wx2 ?_ ?_ <;> (intro hp; clear hk a; intro a hk)) | (refine wx3 ?_; clear hk hS a; intro w b hS a hk) | (refine wx4 ?_; clear hk hS a; intro w hS a hk) | (refine wx5 ?_; clear hk hS a; intro w v hS a hk) | fail) | refine wx0 ?_ | (refine s_end hk ?_; clear hk a; intro a hk) | fail))
  rename Nat => b4
  replace hS := hS.sub (L' := schedH bs now wl ql .no :: pts b2 [ptV bs] 31 :: pts b3 [.int .i64 k, .int .i64 0] 72 :: pts b4 [.bool false, .int .i64 0] 34 :: L) (by (repeat (first | exact Sub.nil | exact Sub.refl | refine Sub.cons (by (repeat (first | exact At.here | apply At.there))) ?_)))
  refine sg hk (g_callO hk (hf := by kernel_rfl) (hc := sadd_any (bs := bs) (fr := true) (f := 77) (cap := [ptV b2, ptV b3]) (tok := ql + 1) (wl' := wl) (ql' := ql + 1) (x' := .q1 (ql + 1) k) (by kernel_rfl) hS (fun X w hS => ?_)) (h := ?_))
  · obtain ⟨bw, bq, hS1⟩ := hS.sched (bs := bs) (now := now) (wl := wl) (ql := ql) (x := .no) (by (repeat (first | exact At.here | apply At.there)))
    simp only [schedL, List.cons_append, List.nil_append] at hS1
    refine (second1_any (bq := bq) (b2 := b2) (b3 := b3) (bs := bs) (bw := bw) (ql := ql) (k := k) (now := now) (L := wheelH bw wl .no :: X :: pts b4 [.bool false, .int .i64 0] 34 :: L) hql (hS1.sub (by (repeat (first | exact Sub.nil | exact Sub.refl | refine Sub.cons (by (repeat (first | exact At.here | apply At.there))) ?_))))).mono (fun e w' h => h.mono (fun v w' h => ⟨h.1, ?_⟩))
    have h3 := h.2
    rw [show wheelH bw wl .no = wheelH bw wl (.q1 (ql + 1) k) from rfl] at h3
    refine schedH.of (bw := bw) (bq := bq) ?_
    simp only [schedL, List.cons_append, List.nil_append]
    exact h3.sub (by (repeat (first | exact Sub.nil | exact Sub.refl | refine Sub.cons (by (repeat (first | exact At.here | apply At.there))) ?_)))
  · clear hk hS a; rintro _ w ⟨rfl, hS⟩ a hk
    (repeat' (first | (show wpListIn _ _ _ _ _ (_ :: _) _ _; first | (refine wx1 ?_; clear hk a; intro a hk) | (refine wx2 ?_ ?_ <;> (intro hp; clear hk a; intro a hk)) | (refine wx3 ?_; clear hk hS a; intro w b hS a hk) | (refine wx4 ?_; clear hk hS a; intro w hS a hk) | (refine wx5 ?_; clear hk hS a; intro w v hS a hk) | fail) | refine wx0 ?_ | (refine s_end hk ?_; clear hk a; intro a hk) | fail))
    refine done2R hk rfl (.str hS (hT := aT rfl) (hs := zT rfl)) (.tmp rfl) (h := ⟨rfl, ?_⟩)
    exact hS.sub (.cons (by (repeat (first | exact At.here | apply At.there))) (by (repeat (first | exact Sub.refl | apply Sub.under))))
theorem after_any {bs : Nat} {now wl ql k d : Int} (hwl : 0 ≤ wl ∧ wl ≤ 1000000) (hS : St B (schedH bs now wl ql .no :: L) w) :
    Calls Tryz.prog 57 #[ptV bs, .int .i64 d, .agg #[.int .i64 k, .int .i64 0]] w (Ret fun v w' => v = .tuple #[.agg #[.bool false, .int .i64 (wl + 1)], .int .i64 0] ∧ St B (schedH bs now (wl + 1) ql (.tm (wl + 1) (laterP now d) k) :: L) w') := by
  refine enter Tryz.func57 rfl Tryz.ntmps57 rfl (fun a hk => ?_)
  refine wpIn_seq ?_; refine wpIn_region_lit ?_
  refine st_box hk hS ?_; clear hk hS a; intro w b2 hS a hk
  refine st_box hk hS ?_; clear hk hS a; intro w b3 hS a hk
  refine st_box hk hS ?_; clear hk hS a; intro w b5 hS a hk
  (repeat' (first | (show wpListIn _ _ _ _ _ (_ :: _) _ _; first | (refine wx1 ?_; clear hk a; intro a hk) | (refine wx2 ?_ ?_ <;> (intro hp; clear hk a; intro a hk)) | (refine wx3 ?_; clear hk hS a; intro w b hS a hk) | (refine wx4 ?_; clear hk hS a; intro w hS a hk) | (refine wx5 ?_; clear hk hS a; intro w v hS a hk) | fail) | refine wx0 ?_ | (refine s_end hk ?_; clear hk a; intro a hk) | fail))
  rename Nat => b4
  replace hS := hS.sub (L' := schedH bs now wl ql .no :: pts b2 [ptV bs] 31 :: pts b3 [.int .i64 d] 3 :: pts b5 [.int .i64 k, .int .i64 0] 72 :: pts b4 [.bool false, .int .i64 0] 34 :: L) (by (repeat (first | exact Sub.nil | exact Sub.refl | refine Sub.cons (by (repeat (first | exact At.here | apply At.there))) ?_)))
  refine sg hk (g_callO hk (hf := by kernel_rfl) (hc := sadd_any (bs := bs) (fr := false) (f := 79) (cap := [ptV b2, ptV b3, ptV b5]) (tok := wl + 1) (wl' := wl + 1) (ql' := ql) (x' := .tm (wl + 1) (laterP now d) k) (by kernel_rfl) hS (fun X w hS => ?_)) (h := ?_))
  · obtain ⟨bw, bq, hS1⟩ := hS.sched (bs := bs) (now := now) (wl := wl) (ql := ql) (x := .no) (by (repeat (first | exact At.here | apply At.there)))
    simp only [schedL, List.cons_append, List.nil_append] at hS1
    refine (after1_any (bq := bq) (b2 := b2) (b3 := b3) (b4 := b5) (bs := bs) (bw := bw) (wl := wl) (k := k) (now := now) (d := d) (L := queueH bq ql .no :: X :: pts b4 [.bool false, .int .i64 0] 34 :: L) hwl (hS1.sub (by (repeat (first | exact Sub.nil | exact Sub.refl | refine Sub.cons (by (repeat (first | exact At.here | apply At.there))) ?_))))).mono (fun e w' h => h.mono (fun v w' h => ⟨h.1, ?_⟩))
    have h3 := h.2
    rw [later_clip, show queueH bq ql .no = queueH bq ql (.tm (wl + 1) (laterP now d) k) from rfl] at h3
    refine schedH.of (bw := bw) (bq := bq) ?_
    simp only [schedL, List.cons_append, List.nil_append]
    exact h3.sub (by (repeat (first | exact Sub.nil | exact Sub.refl | refine Sub.cons (by (repeat (first | exact At.here | apply At.there))) ?_)))
  · clear hk hS a; rintro _ w ⟨rfl, hS⟩ a hk
    (repeat' (first | (show wpListIn _ _ _ _ _ (_ :: _) _ _; first | (refine wx1 ?_; clear hk a; intro a hk) | (refine wx2 ?_ ?_ <;> (intro hp; clear hk a; intro a hk)) | (refine wx3 ?_; clear hk hS a; intro w b hS a hk) | (refine wx4 ?_; clear hk hS a; intro w hS a hk) | (refine wx5 ?_; clear hk hS a; intro w v hS a hk) | fail) | refine wx0 ?_ | (refine s_end hk ?_; clear hk a; intro a hk) | fail))
    refine done2R hk rfl (.str hS (hT := aT rfl) (hs := zT rfl)) (.tmp rfl) (h := ⟨rfl, ?_⟩)
    exact hS.sub (.cons (by (repeat (first | exact At.here | apply At.there))) (by (repeat (first | exact Sub.refl | apply Sub.under))))
end
end Go.Proofs.YthodcfdgahfniaaGreat
namespace Go.Proofs.YthodcfdgahfniaaGreat
open Go.RowKit

theorem St.cutT {α : Type} [Enc α] {B : Bs} {w : World} {L L' : List HP} {E : TypeId} {xs : List α} {ao : Option Addr} {c : Nat} (i : Nat) (h : St B L w) (hat : At (OwT E xs (.slice ao xs.length c)) L L') (hi : i ≤ xs.length) :
    St B (OwT E (xs.take i) (.slice (if c = 0 then ao else ao.map (·.add 0)) i c) :: L') w := by
  have hti : (xs.take i).length = i := by rw [List.length_take, Nat.min_eq_left hi]
  obtain ⟨F0, h1, h2, h3, h4⟩ := h.rd hat
  rcases h3 with ⟨hv, hn⟩ | ⟨b, off, cap, cur, hv, hF, hF', hb, hn, hc, hs, hcell⟩
  · simp only [Value.slice.injEq] at hv
    obtain ⟨rfl, h0, rfl⟩ := hv
    have hx : xs = [] := List.length_eq_zero_iff.1 h0
    subst hx
    have hi0 : i = 0 := by simpa using hi
    subst hi0
    exact (h.sub hat.rest).nilT E α
  · simp only [Value.slice.injEq] at hv
    obtain ⟨rfl, -, rfl⟩ := hv
    obtain ⟨vs, hS, g1, g2, g3, g4, g5⟩ := St.ownPts h hat
    have := hS.toOwn (ys := xs.take i) (off := off) (cap := c) .here (by rw [hti]; omega) g3 g1 (fun j u hj => by
      refine g5 j u ?_
      rw [← enc_take, List.getElem?_take] at hj
      split at hj
      · exact hj
      · cases hj)
    rw [hti] at this
    have e : (if c = 0 then some (⟨b, off, none⟩ : Addr) else (some (⟨b, off, none⟩ : Addr)).map (·.add 0)) = some ⟨b, off, none⟩ := by split <;> rfl
    rw [e]
    exact this
theorem SlT.cap {α : Type} [Enc α] {w : World} {xs : List α} {ao : Option Addr} {n c : Nat} (h : SlT xs (.slice ao n c) w) : xs.length ≤ c := by
  obtain ⟨ao', c', e, -, h2, -⟩ := h.shape
  simp only [Value.slice.injEq] at e
  obtain ⟨-, -, rfl⟩ := e
  exact h2
section
variable {P : Program} {a : Act} {w : World} {n : Nat} {l : List (Nat × Value)} {df : List Deferred}
  {dst : Option Nat} {ty : TypeId} {pos : String} {af : Array Edge} {g : Option (Nat × Bool)} {R : Value → World → Prop}
theorem g_slTa {x y : Operand} {t E k m c : Nat} {ao : Option Addr} {kk : IntKind} (j : Nat) (hk : Kn df n a l) (h : R (.slice (if c = 0 then ao else ao.map (·.add 0)) j c) w)
    (ht : elOf P t = some E) (hE : szOf P E = some k) (hj : j ≤ c) (hx : ev l x = some (.slice ao m c) := by rfl) (hy : ev l y = some (.int kk (j : Int)) := by rfl) :
    Gives P ⟨dst, .slice t x none (some y) none, ty, pos, af, g⟩ a w R :=
  givesv (v := .slice (if c = 0 then ao else ao.map (·.add 0)) j c) (by
    simp [execOp, hk.eval hx, hk.eval hy, Instr.sliceAt, Instr.slice, run_underlying (elOf_und ht), Instr.sliceBounds, Instr.sliceBound, asIntOf, hj, szOf_run hE]) h
end
end Go.Proofs.YthodcfdgahfniaaGreat
namespace Go.Proofs.YthodcfdgahfniaaGreat
open Go.RowKit
set_option maxRecDepth 100000
attribute [local irreducible] Go.Code.wpIn Go.wpListIn Go.Calls Gives Go.Exit.then Go.Exit.inBlock Done ObxE

section
variable {B : Bs} {L : List HP} {w : World} {bp bm : Nat} {ao : Option Addr} {c : Nat}
theorem ppop_any {t d k : Int} (hS : St B (pts bp [.slice ao 1 c, .map (some bm)] 90 :: mapH encI (.map (some bm)) [(t, .int .i64 0)] :: OwT 101 [((t, d, k, 0) : TmC)] (.slice ao 1 c) :: L) w) :
    Calls Tryz.prog 141 #[ptV bp] w (Ret fun _ w' => ∃ a' c', St B (pts bp [.slice a' 0 c', .map (some bm)] 90 :: mapH encI (.map (some bm)) [] :: OwT 101 ([] : List TmC) (.slice a' 0 c') :: L) w') := by
  have hcc : 1 ≤ c := SlT.cap (xs := [((t, d, k, 0) : TmC)]) (OwT.rd (hS.rd (.there (.there .here))))
  refine enter Tryz.func141 rfl Tryz.ntmps141 rfl (fun a hk => ?_)
  (repeat' (first | (show wpListIn _ _ _ _ _ (_ :: _) _ _; first | (refine wx1 ?_; clear hk a; intro a hk) | (refine wx2 ?_ ?_ <;> (intro hp; clear hk a; intro a hk)) | (refine wx3 ?_; clear hk hS a; intro w b hS a hk) | (refine wx4 ?_; clear hk hS a; intro w hS a hk) | (refine wx5 ?_; clear hk hS a; intro w v hS a hk) | fail) | refine wx0 ?_ | (refine s_end hk ?_; clear hk a; intro a hk) | fail))
  rw [show (([((t, d, k, 0) : TmC)].length : Nat) : Int) = 1 from rfl] at hk
  refine sg hk (g_sub hk ?_ (hlo := by omega) (hhi := by omega)); clear hk a; intro a hk
  rw [show (1 - 1 : Int) = ((0 : Nat) : Int) from rfl] at hk
  have hx0 : [((t, d, k, 0) : TmC)][0]? = some (t, d, k, 0) := rfl
  (repeat' (first | (show wpListIn _ _ _ _ _ (_ :: _) _ _; first | (refine wx1 ?_; clear hk a; intro a hk) | (refine wx2 ?_ ?_ <;> (intro hp; clear hk a; intro a hk)) | (refine wx3 ?_; clear hk hS a; intro w b hS a hk) | (refine wx4 ?_; clear hk hS a; intro w hS a hk) | (refine wx5 ?_; clear hk hS a; intro w v hS a hk) | fail) | refine wx0 ?_ | (refine s_end hk ?_; clear hk a; intro a hk) | fail))
  rename Nat => b4
  refine sg hk (g_slTa 0 hk ?_ (eT rfl) (zT rfl) (by omega)); clear hk a; intro a hk
  (repeat' (first | (show wpListIn _ _ _ _ _ (_ :: _) _ _; first | (refine wx1 ?_; clear hk a; intro a hk) | (refine wx2 ?_ ?_ <;> (intro hp; clear hk a; intro a hk)) | (refine wx3 ?_; clear hk hS a; intro w b hS a hk) | (refine wx4 ?_; clear hk hS a; intro w hS a hk) | (refine wx5 ?_; clear hk hS a; intro w v hS a hk) | fail) | refine wx0 ?_ | (refine s_end hk ?_; clear hk a; intro a hk) | fail))
  replace hS := St.cutT (xs := [((t, d, k, 0) : TmC)]) (E := 101) (ao := ao) (c := c) 0 hS (by (repeat (first | exact At.here | apply At.there))) (by omega)
  refine wp_drawn 6 mixed (by kernel_rfl) hk hS ?_; clear hk hS a
  (repeat' (first | (show ObxE _ _ _ _ _ _ _ _ _ (_ :: _) _ _ _; first | refine ox1 ?_ | (refine ox2 ?_ ?_ <;> intro hp) | fail) | fail))
  refine obe_nil ⟨rfl, ?_⟩; intro us a w hk hS
  refine su hk (g_delete (k := t) hk hS ?_ rfl (mT rfl) keyI); clear hk hS a; intro w hS a hk
  rw [show delL [((t : Int), Value.int .i64 0)] t = [] from by simp [delL]] at hS
  (repeat' (first | (show wpListIn _ _ _ _ _ (_ :: _) _ _; first | (refine wx1 ?_; clear hk a; intro a hk) | (refine wx2 ?_ ?_ <;> (intro hp; clear hk a; intro a hk)) | (refine wx3 ?_; clear hk hS a; intro w b hS a hk) | (refine wx4 ?_; clear hk hS a; intro w hS a hk) | (refine wx5 ?_; clear hk hS a; intro w v hS a hk) | fail) | refine wx0 ?_ | (refine s_end hk ?_; clear hk a; intro a hk) | fail))
  refine sg hk (g_mkI hk ?_ (by kernel_rfl)); clear hk a; intro a hk
  (repeat' (first | (show wpListIn _ _ _ _ _ (_ :: _) _ _; first | (refine wx1 ?_; clear hk a; intro a hk) | (refine wx2 ?_ ?_ <;> (intro hp; clear hk a; intro a hk)) | (refine wx3 ?_; clear hk hS a; intro w b hS a hk) | (refine wx4 ?_; clear hk hS a; intro w hS a hk) | (refine wx5 ?_; clear hk hS a; intro w v hS a hk) | fail) | refine wx0 ?_ | (refine s_end hk ?_; clear hk a; intro a hk) | fail))
  exact done1 hk (h := ⟨_, c, hS.sub (.cons (by (repeat (first | exact At.here | apply At.there))) (.cons (by (repeat (first | exact At.here | apply At.there))) (.cons (by (repeat (first | exact At.here | apply At.there))) (by (repeat (first | exact Sub.refl | apply Sub.under))))))⟩)
theorem down_any {v : Value} (w0 : World) : Calls Tryz.prog 95 #[v, .int .i64 0, .int .i64 0] w0 (Ret fun v w => v = .bool false ∧ St w0 [] w) := by
  refine enter Tryz.func95 rfl Tryz.ntmps95 rfl (fun a hk => ?_); have hS := St.refl w0
  (repeat' (first | (show wpListIn _ _ _ _ _ (_ :: _) _ _; first | (refine wx1 ?_; clear hk a; intro a hk) | (refine wx2 ?_ ?_ <;> (intro hp; clear hk a; intro a hk)) | (refine wx3 ?_; clear hk hS a; intro w b hS a hk) | (refine wx4 ?_; clear hk hS a; intro w hS a hk) | (refine wx5 ?_; clear hk hS a; intro w v hS a hk) | fail) | refine wx0 ?_ | (refine s_end hk ?_; clear hk a; intro a hk) | fail))
  replace hk := Kn.kp [0, 1, 2, 7] hk
  refine wp_for 0 (fun _ _ => [(7, .int .i64 0)]) (fun _ _ => []) (fun _ _ => True) () hk (by repeat (first | exact trivial | refine ⟨rfl, ?_⟩)) hS trivial ?_
  clear hk hS a
  rintro i - a w hi hk hS -
  (repeat' (first | (show wpListIn _ _ _ _ _ (_ :: _) _ _; first | (refine wx1 ?_; clear hk a; intro a hk) | (refine wx2 ?_ ?_ <;> (intro hp; clear hk a; intro a hk)) | (refine wx3 ?_; clear hk hS a; intro w b hS a hk) | (refine wx4 ?_; clear hk hS a; intro w hS a hk) | (refine wx5 ?_; clear hk hS a; intro w v hS a hk) | fail) | refine wx0 ?_ | (refine s_end hk ?_; clear hk a; intro a hk) | fail))
  refine sg hk (g_mul hk ?_ (hlo := by omega) (hhi := by omega)); clear hk a; intro a hk
  rw [show (2 * 0 : Int) = 0 from rfl] at hk
  (repeat' (first | (show wpListIn _ _ _ _ _ (_ :: _) _ _; first | (refine wx1 ?_; clear hk a; intro a hk) | (refine wx2 ?_ ?_ <;> (intro hp; clear hk a; intro a hk)) | (refine wx3 ?_; clear hk hS a; intro w b hS a hk) | (refine wx4 ?_; clear hk hS a; intro w hS a hk) | (refine wx5 ?_; clear hk hS a; intro w v hS a hk) | fail) | refine wx0 ?_ | (refine s_end hk ?_; clear hk a; intro a hk) | fail))
  exact done1 hk (h := ⟨rfl, hS⟩)
theorem pswap_any {t d k : Int} {s : Nat} (w0 : World) (h1 : (pts bp [.slice ao 1 c, .map (some bm)] 90).rd w0) (h2 : (map1 encI (.map (some bm)) t (.int .i64 0) s).rd w0) (h3 : (OwT 101 [((t, d, k, 0) : TmC)] (.slice ao 1 c)).rd w0) :
    Calls Tryz.prog 143 #[ptV bp, .int .i64 0, .int .i64 0] w0 (Ret fun _ w => St w0 [] w) := by
  have hx0 : [((t, d, k, 0) : TmC)][0]? = some (t, d, k, 0) := rfl
  have h4 : SlT [((t, d, k, 0) : TmC)] (.slice ao 1 c) w0 := OwT.rd h3
  refine enter Tryz.func143 rfl Tryz.ntmps143 rfl (fun a hk => ?_); have hS := St.refl w0
  (repeat' (first | (show wpListIn _ _ _ _ _ (_ :: _) _ _; first | (refine wx1 ?_; clear hk a; intro a hk) | (refine wx2 ?_ ?_ <;> (intro hp; clear hk a; intro a hk)) | (refine wx3 ?_; clear hk hS a; intro w b hS a hk) | (refine wx4 ?_; clear hk hS a; intro w hS a hk) | (refine wx5 ?_; clear hk hS a; intro w v hS a hk) | fail) | refine wx0 ?_ | (refine s_end hk ?_; clear hk a; intro a hk) | fail))
  rw [show (0 : Int) = ((0 : Nat) : Int) from rfl] at hk
  refine wp_drawn 26 mixed (by kernel_rfl) hk hS ?_; clear hk hS a
  (repeat' (first | (show ObxE _ _ _ _ _ _ _ _ _ (_ :: _) _ _ _; first | refine ox1 ?_ | (refine ox2 ?_ ?_ <;> intro hp) | fail) | fail))
  refine' obe_val (c := undef) (fun us a w hk hd hS => ?_) ?_
  · have hk := Kn.vw hk (by repeat (first | exact VW.nil | apply VW.val rfl | apply VW.base rfl rfl | apply VW.res rfl | apply VW.upd rfl | apply VW.cpy rfl | apply VW.dep rfl | apply VW.fn rfl | apply VW.lnd rfl | apply VW.tak rfl))
    exact g_stS1 (i := 0) (xs := [((t, d, k, 0) : TmC)]) hk (h3.mono hS.below) (same _ _) (zT rfl) hx0
  refine obe_nil ⟨rfl, ?_⟩; intro us a w hk hS
  (repeat' (first | (show wpListIn _ _ _ _ _ (_ :: _) _ _; first | (refine wx1 ?_; clear hk a; intro a hk) | (refine wx2 ?_ ?_ <;> (intro hp; clear hk a; intro a hk)) | (refine wx3 ?_; clear hk hS a; intro w b hS a hk) | (refine wx4 ?_; clear hk hS a; intro w hS a hk) | (refine wx5 ?_; clear hk hS a; intro w v hS a hk) | fail) | refine wx0 ?_ | (refine s_end hk ?_; clear hk a; intro a hk) | fail))
  replace hk := Kn.kp [0, 1, 2, 29, 31] hk
  simp only [HV.of] at hk
  simp only [resE] at hS
  refine su hk (g_stS1 (i := 0) (xs := [((t, d, k, 0) : TmC)]) (E := 101) (z := (t, d, k, 0)) hk (h3.mono hS.below) ?_ (zT rfl) hx0); clear hk a; intro a hk
  (repeat' (first | (show wpListIn _ _ _ _ _ (_ :: _) _ _; first | (refine wx1 ?_; clear hk a; intro a hk) | (refine wx2 ?_ ?_ <;> (intro hp; clear hk a; intro a hk)) | (refine wx3 ?_; clear hk hS a; intro w b hS a hk) | (refine wx4 ?_; clear hk hS a; intro w hS a hk) | (refine wx5 ?_; clear hk hS a; intro w v hS a hk) | fail) | refine wx0 ?_ | (refine s_end hk ?_; clear hk a; intro a hk) | fail))
  refine wp_drawn 31 mixed (by kernel_rfl) hk hS ?_; clear hk hS a
  (repeat' (first | (show ObxE _ _ _ _ _ _ _ _ _ (_ :: _) _ _ _; first | refine ox1 ?_ | (refine ox2 ?_ ?_ <;> intro hp) | fail) | fail))
  refine' obe_val (c := .tuple #[.int .i64 0, .int .i64 (s : Int)]) (fun us a w hk hd hS => ?_) ?_
  · have hk := Kn.vw hk (by repeat (first | exact VW.nil | apply VW.val rfl | apply VW.base rfl rfl | apply VW.res rfl | apply VW.upd rfl | apply VW.cpy rfl | apply VW.dep rfl | apply VW.fn rfl | apply VW.lnd rfl | apply VW.tak rfl))
    exact g_mapEntry1 (k := t) hk (h2.mono hS.below) (same _ _) (mT rfl) keyI
  (repeat' (first | (show ObxE _ _ _ _ _ _ _ _ _ (_ :: _) _ _ _; first | refine ox1 ?_ | (refine ox2 ?_ ?_ <;> intro hp) | fail) | fail))
  refine' obe_val (c := undef) (fun us a w hk hd hS => ?_) ?_
  · have hk := Kn.vw hk (by repeat (first | exact VW.nil | apply VW.val rfl | apply VW.base rfl rfl | apply VW.res rfl | apply VW.upd rfl | apply VW.cpy rfl | apply VW.dep rfl | apply VW.fn rfl | apply VW.lnd rfl | apply VW.tak rfl))
    exact g_entryStore1 hk (h2.mono hS.below) (same _ _)
  refine' obe_val (c := .tuple #[.int .i64 0, .int .i64 (s : Int)]) (fun us a w hk hd hS => ?_) ?_
  · have hk := Kn.vw hk (by repeat (first | exact VW.nil | apply VW.val rfl | apply VW.base rfl rfl | apply VW.res rfl | apply VW.upd rfl | apply VW.cpy rfl | apply VW.dep rfl | apply VW.fn rfl | apply VW.lnd rfl | apply VW.tak rfl))
    exact g_mapEntry1 (k := t) hk (h2.mono hS.below) (same _ _) (mT rfl) keyI
  (repeat' (first | (show ObxE _ _ _ _ _ _ _ _ _ (_ :: _) _ _ _; first | refine ox1 ?_ | (refine ox2 ?_ ?_ <;> intro hp) | fail) | fail))
  refine obe_nil ⟨rfl, ?_⟩; intro us a w hk hS
  replace hk := Kn.kp [47, 57, 61] hk
  simp only [HV.of] at hk
  simp only [resE] at hS
  refine su hk (g_entryStore1 (enc := encI) (k := t) (u := .int .i64 0) hk (h2.mono hS.below) ?_); clear hk a; intro a hk
  (repeat' (first | (show wpListIn _ _ _ _ _ (_ :: _) _ _; first | (refine wx1 ?_; clear hk a; intro a hk) | (refine wx2 ?_ ?_ <;> (intro hp; clear hk a; intro a hk)) | (refine wx3 ?_; clear hk hS a; intro w b hS a hk) | (refine wx4 ?_; clear hk hS a; intro w hS a hk) | (refine wx5 ?_; clear hk hS a; intro w v hS a hk) | fail) | refine wx0 ?_ | (refine s_end hk ?_; clear hk a; intro a hk) | fail))
  exact done0n hk (h := hS)
abbrev pileL (bp bm : Nat) (ao : Option Addr) (c : Nat) (x : Wt) : List HP := [pts bp [.slice ao (tmL x).length c, .map (some bm)] 90, mapH encI (.map (some bm)) (tmM x), OwT 101 (tmL x) (.slice ao (tmL x).length c)]
abbrev p1L (bp bm : Nat) (ao : Option Addr) (c : Nat) (t d k : Int) (L : List HP) : List HP := pts bp [.slice ao 1 c, .map (some bm)] 90 :: mapH encI (.map (some bm)) [(t, .int .i64 0)] :: OwT 101 [((t, d, k, 0) : TmC)] (.slice ao 1 c) :: L
abbrev p0L (bp bm : Nat) (ao : Option Addr) (c : Nat) (L : List HP) : List HP := pts bp [.slice ao 0 c, .map (some bm)] 90 :: mapH encI (.map (some bm)) [] :: OwT 101 ([] : List TmC) (.slice ao 0 c) :: L
theorem plen1_any {x : TmC} (w0 : World) (h1 : (pts bp [.slice ao 1 c, .map (some bm)] 90).rd w0) (h2 : SlT [x] (.slice ao 1 c) w0) :
    Calls Tryz.prog 65 #[ptV bp] w0 (Ret fun v w => v = .int .i64 1 ∧ St w0 [] w) := plen_any bp bm [x] ao c w0 h1 h2
theorem hremove_any {t d k : Int} (hS : St B (p1L bp bm ao c t d k L) w) :
    Calls Tryz.prog 73 #[.iface 86 (ptV bp), .int .i64 0] w (Ret fun _ w' => ∃ a' c', St B (p0L bp bm a' c' L) w') := by
  refine enter Tryz.func73 rfl Tryz.ntmps73 rfl (fun a hk => ?_)
  (repeat' (first | (show wpListIn _ _ _ _ _ (_ :: _) _ _; first | (refine wx1 ?_; clear hk a; intro a hk) | (refine wx2 ?_ ?_ <;> (intro hp; clear hk a; intro a hk)) | (refine wx3 ?_; clear hk hS a; intro w b hS a hk) | (refine wx4 ?_; clear hk hS a; intro w hS a hk) | (refine wx5 ?_; clear hk hS a; intro w v hS a hk) | fail) | refine wx0 ?_ | (refine s_end hk ?_; clear hk a; intro a hk) | fail))
  refine sg hk (g_inv hk (m_len _) (plen1_any (bm := bm) (x := (t, d, k, 0)) _ (hS.rd .here) (OwT.rd (hS.rd (.there (.there .here))))) (fun _ _ h => ?_)); clear hk a; obtain ⟨rfl, hS1⟩ := h; intro a hk; replace hS := hS.call0 hS1; clear hS1
  (repeat' (first | (show wpListIn _ _ _ _ _ (_ :: _) _ _; first | (refine wx1 ?_; clear hk a; intro a hk) | (refine wx2 ?_ ?_ <;> (intro hp; clear hk a; intro a hk)) | (refine wx3 ?_; clear hk hS a; intro w b hS a hk) | (refine wx4 ?_; clear hk hS a; intro w hS a hk) | (refine wx5 ?_; clear hk hS a; intro w v hS a hk) | fail) | refine wx0 ?_ | (refine s_end hk ?_; clear hk a; intro a hk) | fail))
  refine sg hk (g_inv hk (m_pop _) (ppop_any hS) (fun _ _ h => ?_)); clear hk hS a; obtain ⟨a', c', hS⟩ := h; intro a hk
  (repeat' (first | (show wpListIn _ _ _ _ _ (_ :: _) _ _; first | (refine wx1 ?_; clear hk a; intro a hk) | (refine wx2 ?_ ?_ <;> (intro hp; clear hk a; intro a hk)) | (refine wx3 ?_; clear hk hS a; intro w b hS a hk) | (refine wx4 ?_; clear hk hS a; intro w hS a hk) | (refine wx5 ?_; clear hk hS a; intro w v hS a hk) | fail) | refine wx0 ?_ | (refine s_end hk ?_; clear hk a; intro a hk) | fail))
  exact done1 hk (h := ⟨a', c', hS⟩)
theorem hpop_any {t d k : Int} (hS : St B (p1L bp bm ao c t d k L) w) :
    Calls Tryz.prog 71 #[.iface 86 (ptV bp)] w (Ret fun _ w' => ∃ a' c', St B (p0L bp bm a' c' L) w') := by
  refine enter Tryz.func71 rfl Tryz.ntmps71 rfl (fun a hk => ?_)
  (repeat' (first | (show wpListIn _ _ _ _ _ (_ :: _) _ _; first | (refine wx1 ?_; clear hk a; intro a hk) | (refine wx2 ?_ ?_ <;> (intro hp; clear hk a; intro a hk)) | (refine wx3 ?_; clear hk hS a; intro w b hS a hk) | (refine wx4 ?_; clear hk hS a; intro w hS a hk) | (refine wx5 ?_; clear hk hS a; intro w v hS a hk) | fail) | refine wx0 ?_ | (refine s_end hk ?_; clear hk a; intro a hk) | fail))
  refine sg hk (g_inv hk (m_len _) (plen1_any (bm := bm) (x := (t, d, k, 0)) _ (hS.rd .here) (OwT.rd (hS.rd (.there (.there .here))))) (fun _ _ h => ?_)); clear hk a; obtain ⟨rfl, hS1⟩ := h; intro a hk; replace hS := hS.call0 hS1; clear hS1
  refine sg hk (g_sub hk ?_ (hlo := by omega) (hhi := by omega)); clear hk a; intro a hk
  rw [show (1 - 1 : Int) = 0 from rfl] at hk
  (repeat' (first | (show wpListIn _ _ _ _ _ (_ :: _) _ _; first | (refine wx1 ?_; clear hk a; intro a hk) | (refine wx2 ?_ ?_ <;> (intro hp; clear hk a; intro a hk)) | (refine wx3 ?_; clear hk hS a; intro w b hS a hk) | (refine wx4 ?_; clear hk hS a; intro w hS a hk) | (refine wx5 ?_; clear hk hS a; intro w v hS a hk) | fail) | refine wx0 ?_ | (refine s_end hk ?_; clear hk a; intro a hk) | fail))
  obtain ⟨s, hS1⟩ := hS.map1 (enc := encI) (k := t) (u := .int .i64 0) (v := .map (some bm)) (by (repeat (first | exact At.here | apply At.there)))
  clear hS
  have hS := hS1
  clear hS1
  refine sg hk (g_inv hk (m_swap _ _ _) (pswap_any (bp := bp) (bm := bm) (ao := ao) (c := c) (t := t) (d := d) (k := k) (s := s) _ (hS.rd (by (repeat (first | exact At.here | apply At.there)))) (hS.rd (by (repeat (first | exact At.here | apply At.there)))) (hS.rd (by (repeat (first | exact At.here | apply At.there))))) (fun _ _ h => ?_)); clear hk a; intro a hk; replace hS := hS.call0 h; clear h
  (repeat' (first | (show wpListIn _ _ _ _ _ (_ :: _) _ _; first | (refine wx1 ?_; clear hk a; intro a hk) | (refine wx2 ?_ ?_ <;> (intro hp; clear hk a; intro a hk)) | (refine wx3 ?_; clear hk hS a; intro w b hS a hk) | (refine wx4 ?_; clear hk hS a; intro w hS a hk) | (refine wx5 ?_; clear hk hS a; intro w v hS a hk) | fail) | refine wx0 ?_ | (refine s_end hk ?_; clear hk a; intro a hk) | fail))
  refine sg hk (g_callO hk (hf := by kernel_rfl) (hc := down_any _) (h := ?_)); clear hk a; rintro _ w ⟨rfl, hS1⟩ a hk; replace hS := hS.call0 hS1; clear hS1
  (repeat' (first | (show wpListIn _ _ _ _ _ (_ :: _) _ _; first | (refine wx1 ?_; clear hk a; intro a hk) | (refine wx2 ?_ ?_ <;> (intro hp; clear hk a; intro a hk)) | (refine wx3 ?_; clear hk hS a; intro w b hS a hk) | (refine wx4 ?_; clear hk hS a; intro w hS a hk) | (refine wx5 ?_; clear hk hS a; intro w v hS a hk) | fail) | refine wx0 ?_ | (refine s_end hk ?_; clear hk a; intro a hk) | fail))
  have hS1 := map1.map hS (enc := encI) (k := t) (u := .int .i64 0) (v := .map (some bm)) (s := s) (by (repeat (first | exact At.here | apply At.there)))
  clear hS
  have hS := hS1
  clear hS1
  refine sg hk (g_inv hk (m_pop _) (ppop_any (t := t) (d := d) (k := k) (ao := ao) (c := c) (bm := bm) (hS.sub (by (repeat (first | exact Sub.nil | exact Sub.refl | refine Sub.cons (by (repeat (first | exact At.here | apply At.there))) ?_))))) (fun _ _ h => ?_)); clear hk hS a; obtain ⟨a', c', hS⟩ := h; intro a hk
  (repeat' (first | (show wpListIn _ _ _ _ _ (_ :: _) _ _; first | (refine wx1 ?_; clear hk a; intro a hk) | (refine wx2 ?_ ?_ <;> (intro hp; clear hk a; intro a hk)) | (refine wx3 ?_; clear hk hS a; intro w b hS a hk) | (refine wx4 ?_; clear hk hS a; intro w hS a hk) | (refine wx5 ?_; clear hk hS a; intro w v hS a hk) | fail) | refine wx0 ?_ | (refine s_end hk ?_; clear hk a; intro a hk) | fail))
  exact done1 hk (h := ⟨a', c', hS⟩)
theorem wcancel_any {bw : Nat} {wl tok : Int} {x : Wt} (hS : St B (wheelH bw wl x :: L) w) :
    Calls Tryz.prog 54 #[ptV bw, .int .i64 tok] w (Ret fun v w' => (∃ q, v = .bool q) ∧ St B (wheelH bw wl (cutW (false, tok) x) :: L) w') := by
  obtain ⟨bp, bm, ao, c, hS1⟩ := hS.wheel (bw := bw) (wl := wl) (x := x) .here
  clear hS
  have hS := hS1
  clear hS1
  simp only [wheelL, List.cons_append, List.nil_append] at hS
  have hno : getL (tmM x) tok = none → Calls Tryz.prog 54 #[ptV bw, .int .i64 tok] w (Ret fun v w' => (∃ q, v = .bool q) ∧ St B (wheelH bw wl x :: L) w') := by
    intro hg
    refine enter Tryz.func54 rfl Tryz.ntmps54 rfl (fun a hk => ?_)
    (repeat' (first | (show wpListIn _ _ _ _ _ (_ :: _) _ _; first | (refine wx1 ?_; clear hk a; intro a hk) | (refine wx2 ?_ ?_ <;> (intro hp; clear hk a; intro a hk)) | (refine wx3 ?_; clear hk hS a; intro w b hS a hk) | (refine wx4 ?_; clear hk hS a; intro w hS a hk) | (refine wx5 ?_; clear hk hS a; intro w v hS a hk) | fail) | refine wx0 ?_ | (refine s_end hk ?_; clear hk a; intro a hk) | fail))
    refine sg hk (g_lookupOk (k := tok) hk (hS.rd (A := mapH encI (.map (some bm)) (tmM x)) (by (repeat (first | exact At.here | apply At.there)))) ?_ (mT rfl) keyI (oT rfl)); clear hk a; intro a hk
    rw [hg] at hk
    simp only [Option.getD_none, Option.isSome_none] at hk
    (repeat' (first | (show wpListIn _ _ _ _ _ (_ :: _) _ _; first | (refine wx1 ?_; clear hk a; intro a hk) | (refine wx2 ?_ ?_ <;> (intro hp; clear hk a; intro a hk)) | (refine wx3 ?_; clear hk hS a; intro w b hS a hk) | (refine wx4 ?_; clear hk hS a; intro w hS a hk) | (refine wx5 ?_; clear hk hS a; intro w v hS a hk) | fail) | refine wx0 ?_ | (refine s_end hk ?_; clear hk a; intro a hk) | fail))
    exact done1 hk (h := ⟨⟨_, rfl⟩, wheelH.of (bp := bp) (bm := bm) (a := ao) (c := c) hS⟩)
  cases x with
  | no => exact hno rfl
  | q1 t k =>
    rw [show cutW (false, tok) (.q1 t k) = .q1 t k from by simp [cutW]]
    exact hno rfl
  | q0 t k =>
    rw [show cutW (false, tok) (.q0 t k) = .q0 t k from by simp [cutW]]
    exact hno rfl
  | tm t d k =>
    by_cases ht : tok = t
    · subst ht
      rw [show cutW (false, tok) (.tm tok d k) = .no from if_pos ⟨rfl, rfl⟩]
      clear hno
      simp only [tmL, tmM, List.length_cons, List.length_nil] at hS
      refine enter Tryz.func54 rfl Tryz.ntmps54 rfl (fun a hk => ?_)
      (repeat' (first | (show wpListIn _ _ _ _ _ (_ :: _) _ _; first | (refine wx1 ?_; clear hk a; intro a hk) | (refine wx2 ?_ ?_ <;> (intro hp; clear hk a; intro a hk)) | (refine wx3 ?_; clear hk hS a; intro w b hS a hk) | (refine wx4 ?_; clear hk hS a; intro w hS a hk) | (refine wx5 ?_; clear hk hS a; intro w v hS a hk) | fail) | refine wx0 ?_ | (refine s_end hk ?_; clear hk a; intro a hk) | fail))
      refine sg hk (g_lookupOk (k := tok) hk (hS.rd (A := mapH encI (.map (some bm)) [(tok, .int .i64 0)]) (by (repeat (first | exact At.here | apply At.there)))) ?_ (mT rfl) keyI (oT rfl)); clear hk a; intro a hk
      rw [show getL [((tok : Int), Value.int .i64 0)] tok = some (.int .i64 0) from by simp [getL, posK]] at hk
      simp only [Option.getD_some, Option.isSome_some] at hk
      (repeat' (first | (show wpListIn _ _ _ _ _ (_ :: _) _ _; first | (refine wx1 ?_; clear hk a; intro a hk) | (refine wx2 ?_ ?_ <;> (intro hp; clear hk a; intro a hk)) | (refine wx3 ?_; clear hk hS a; intro w b hS a hk) | (refine wx4 ?_; clear hk hS a; intro w hS a hk) | (refine wx5 ?_; clear hk hS a; intro w v hS a hk) | fail) | refine wx0 ?_ | (refine s_end hk ?_; clear hk a; intro a hk) | fail))
      refine sg hk (g_mkI hk ?_ (by kernel_rfl)); clear hk a; intro a hk
      (repeat' (first | (show wpListIn _ _ _ _ _ (_ :: _) _ _; first | (refine wx1 ?_; clear hk a; intro a hk) | (refine wx2 ?_ ?_ <;> (intro hp; clear hk a; intro a hk)) | (refine wx3 ?_; clear hk hS a; intro w b hS a hk) | (refine wx4 ?_; clear hk hS a; intro w hS a hk) | (refine wx5 ?_; clear hk hS a; intro w v hS a hk) | fail) | refine wx0 ?_ | (refine s_end hk ?_; clear hk a; intro a hk) | fail))
      refine sg hk (g_callO hk (hf := by kernel_rfl) (hc := hremove_any (bp := bp) (bm := bm) (ao := ao) (c := c) (t := tok) (d := d) (k := k) (hS.sub (.cons (by (repeat (first | exact At.here | apply At.there))) (.cons (by (repeat (first | exact At.here | apply At.there))) (.cons (by (repeat (first | exact At.here | apply At.there))) .refl))))) (h := ?_)); clear hk hS a; rintro _ w ⟨a', c', hS⟩ a hk
      (repeat' (first | (show wpListIn _ _ _ _ _ (_ :: _) _ _; first | (refine wx1 ?_; clear hk a; intro a hk) | (refine wx2 ?_ ?_ <;> (intro hp; clear hk a; intro a hk)) | (refine wx3 ?_; clear hk hS a; intro w b hS a hk) | (refine wx4 ?_; clear hk hS a; intro w hS a hk) | (refine wx5 ?_; clear hk hS a; intro w v hS a hk) | fail) | refine wx0 ?_ | (refine s_end hk ?_; clear hk a; intro a hk) | fail))
      exact done1 hk (h := ⟨⟨_, rfl⟩, wheelH.of (bp := bp) (bm := bm) (a := a') (c := c') (hS.sub (by (repeat (first | exact Sub.nil | exact Sub.refl | refine Sub.cons (by (repeat (first | exact At.here | apply At.there))) ?_))))⟩)
    · rw [show cutW (false, tok) (.tm t d k) = .tm t d k from if_neg (fun h => ht h.2)]
      exact hno (by simp [getL, posK, tmM, ht])
end
end Go.Proofs.YthodcfdgahfniaaGreat
namespace Go.Proofs.YthodcfdgahfniaaGreat
open Go.RowKit
set_option maxRecDepth 100000
attribute [local irreducible] Go.Code.wpIn Go.wpListIn Go.Calls Gives Go.Exit.then Go.Exit.inBlock Done ObxE

def dueW (now : Int) : Wt → Option (Int × Int × Int)
  | .tm t d k => if d ≤ now then some (t, d, k) else none
  | _ => none
def restW (now : Int) : Wt → Wt
  | .tm t d k => if d ≤ now then .no else .tm t d k
  | x => x
def dueV (now : Int) (x : Wt) : Value := match dueW now x with
  | some (t, d, k) => .tuple #[tmV t d k, .bool true]
  | none => .tuple #[tmV 0 0 0, .bool false]
section
variable {B : Bs} {L : List HP} {w : World}
set_option maxHeartbeats 1000000 in
theorem wdue_any {bw : Nat} {wl now : Int} {x : Wt} (hS : St B (wheelH bw wl x :: L) w) :
    Calls Tryz.prog 52 #[ptV bw, .int .i64 now] w (Ret fun v w' => v = dueV now x ∧ St B (wheelH bw wl (restW now x) :: L) w') := by
  obtain ⟨bp, bm, ao, c, hS1⟩ := hS.wheel (bw := bw) (wl := wl) (x := x) .here
  clear hS
  have hS := hS1
  clear hS1
  simp only [wheelL, List.cons_append, List.nil_append] at hS
  have hno : tmL x = [] → Calls Tryz.prog 52 #[ptV bw, .int .i64 now] w (Ret fun v w' => v = .tuple #[tmV 0 0 0, .bool false] ∧ St B (wheelH bw wl x :: L) w') := by
    intro hg
    rw [hg] at hS
    simp only [List.length_nil] at hS
    refine enter Tryz.func52 rfl Tryz.ntmps52 rfl (fun a hk => ?_)
    (repeat' (first | (show wpListIn _ _ _ _ _ (_ :: _) _ _; first | (refine wx1 ?_; clear hk a; intro a hk) | (refine wx2 ?_ ?_ <;> (intro hp; clear hk a; intro a hk)) | (refine wx3 ?_; clear hk hS a; intro w b hS a hk) | (refine wx4 ?_; clear hk hS a; intro w hS a hk) | (refine wx5 ?_; clear hk hS a; intro w v hS a hk) | fail) | refine wx0 ?_ | (refine s_end hk ?_; clear hk a; intro a hk) | fail))
    refine sg hk (g_callO hk (hf := by kernel_rfl) (hc := wlen0_any (bw := bw) (bp := bp) (bm := bm) (wl := wl) (ao := ao) (c := c) _ (hS.rd (by (repeat (first | exact At.here | apply At.there)))) (hS.rd (by (repeat (first | exact At.here | apply At.there)))) (OwT.rd (hS.rd (A := OwT 101 ([] : List TmC) (.slice ao 0 c)) (by (repeat (first | exact At.here | apply At.there)))))) (h := ?_)); clear hk a; rintro _ w ⟨rfl, hS1⟩ a hk; replace hS := hS.call0 hS1; clear hS1
    (repeat' (first | (show wpListIn _ _ _ _ _ (_ :: _) _ _; first | (refine wx1 ?_; clear hk a; intro a hk) | (refine wx2 ?_ ?_ <;> (intro hp; clear hk a; intro a hk)) | (refine wx3 ?_; clear hk hS a; intro w b hS a hk) | (refine wx4 ?_; clear hk hS a; intro w hS a hk) | (refine wx5 ?_; clear hk hS a; intro w v hS a hk) | fail) | refine wx0 ?_ | (refine s_end hk ?_; clear hk a; intro a hk) | fail))
    refine done2R hk rfl (.str hS (hT := aT rfl) (hs := zT rfl)) (.tmp rfl) (h := ⟨rfl, ?_⟩)
    refine wheelH.of (bp := bp) (bm := bm) (a := ao) (c := c) ?_
    simp only [wheelL, hg, List.length_nil, List.cons_append, List.nil_append]
    exact hS.sub (.cons (by (repeat (first | exact At.here | apply At.there))) (.cons (by (repeat (first | exact At.here | apply At.there))) (.cons (by (repeat (first | exact At.here | apply At.there))) (.cons (by (repeat (first | exact At.here | apply At.there))) (by (repeat (first | exact Sub.refl | apply Sub.under)))))))
  cases x with
  | no => exact hno rfl
  | q1 t k => exact hno rfl
  | q0 t k => exact hno rfl
  | tm t d k =>
    clear hno
    simp only [tmL, tmM, List.length_cons, List.length_nil] at hS
    have hx0 : [((t, d, k, 0) : TmC)][0]? = some (t, d, k, 0) := rfl
    by_cases hd : d ≤ now
    · rw [show dueV now (.tm t d k) = .tuple #[tmV t d k, .bool true] from by simp [dueV, dueW, hd], show restW now (.tm t d k) = .no from if_pos hd]
      refine enter Tryz.func52 rfl Tryz.ntmps52 rfl (fun a hk => ?_)
      (repeat' (first | (show wpListIn _ _ _ _ _ (_ :: _) _ _; first | (refine wx1 ?_; clear hk a; intro a hk) | (refine wx2 ?_ ?_ <;> (intro hp; clear hk a; intro a hk)) | (refine wx3 ?_; clear hk hS a; intro w b hS a hk) | (refine wx4 ?_; clear hk hS a; intro w hS a hk) | (refine wx5 ?_; clear hk hS a; intro w v hS a hk) | fail) | refine wx0 ?_ | (refine s_end hk ?_; clear hk a; intro a hk) | fail))
      rename Nat => b4
      refine sg hk (g_callO hk (hf := by kernel_rfl) (hc := wlen1_any (bw := bw) (bp := bp) (bm := bm) (wl := wl) (x := (t, d, k, 0)) (ao := ao) (c := c) _ (hS.rd (by (repeat (first | exact At.here | apply At.there)))) (hS.rd (by (repeat (first | exact At.here | apply At.there)))) (OwT.rd (hS.rd (A := OwT 101 [((t, d, k, 0) : TmC)] (.slice ao 1 c)) (by (repeat (first | exact At.here | apply At.there)))))) (h := ?_)); clear hk a; rintro _ w ⟨rfl, hS1⟩ a hk; replace hS := hS.call0 hS1; clear hS1
      (repeat' (first | (show wpListIn _ _ _ _ _ (_ :: _) _ _; first | (refine wx1 ?_; clear hk a; intro a hk) | (refine wx2 ?_ ?_ <;> (intro hp; clear hk a; intro a hk)) | (refine wx3 ?_; clear hk hS a; intro w b hS a hk) | (refine wx4 ?_; clear hk hS a; intro w hS a hk) | (refine wx5 ?_; clear hk hS a; intro w v hS a hk) | fail) | refine wx0 ?_ | (refine s_end hk ?_; clear hk a; intro a hk) | fail))
      · exfalso
        have hp : now < d := by assumption
        omega
      · rename Nat => b6
        refine sg hk (g_mkI hk ?_ (by kernel_rfl)); clear hk a; intro a hk
        refine sg hk (g_callO hk (hf := by kernel_rfl) (hc := hpop_any (bp := bp) (bm := bm) (ao := ao) (c := c) (t := t) (d := d) (k := k) (hS.sub (.cons (by (repeat (first | exact At.here | apply At.there))) (.cons (by (repeat (first | exact At.here | apply At.there))) (.cons (by (repeat (first | exact At.here | apply At.there))) .refl))))) (h := ?_)); clear hk hS a; rintro _ w ⟨a', c', hS⟩ a hk
        (repeat' (first | (show wpListIn _ _ _ _ _ (_ :: _) _ _; first | (refine wx1 ?_; clear hk a; intro a hk) | (refine wx2 ?_ ?_ <;> (intro hp; clear hk a; intro a hk)) | (refine wx3 ?_; clear hk hS a; intro w b hS a hk) | (refine wx4 ?_; clear hk hS a; intro w hS a hk) | (refine wx5 ?_; clear hk hS a; intro w v hS a hk) | fail) | refine wx0 ?_ | (refine s_end hk ?_; clear hk a; intro a hk) | fail))
        refine done2R hk rfl (.str hS (hT := aT rfl) (hs := zT rfl)) (.tmp rfl) (h := ⟨rfl, ?_⟩)
        refine wheelH.of (bp := bp) (bm := bm) (a := a') (c := c') ?_
        simp only [wheelL, tmL, tmM, List.length_nil, List.cons_append, List.nil_append]
        exact hS.sub (.cons (by (repeat (first | exact At.here | apply At.there))) (.cons (by (repeat (first | exact At.here | apply At.there))) (.cons (by (repeat (first | exact At.here | apply At.there))) (.cons (by (repeat (first | exact At.here | apply At.there))) (by (repeat (first | exact Sub.refl | apply Sub.under)))))))
    · rw [show dueV now (.tm t d k) = .tuple #[tmV 0 0 0, .bool false] from by simp [dueV, dueW, hd], show restW now (.tm t d k) = .tm t d k from if_neg hd]
      refine enter Tryz.func52 rfl Tryz.ntmps52 rfl (fun a hk => ?_)
      (repeat' (first | (show wpListIn _ _ _ _ _ (_ :: _) _ _; first | (refine wx1 ?_; clear hk a; intro a hk) | (refine wx2 ?_ ?_ <;> (intro hp; clear hk a; intro a hk)) | (refine wx3 ?_; clear hk hS a; intro w b hS a hk) | (refine wx4 ?_; clear hk hS a; intro w hS a hk) | (refine wx5 ?_; clear hk hS a; intro w v hS a hk) | fail) | refine wx0 ?_ | (refine s_end hk ?_; clear hk a; intro a hk) | fail))
      rename Nat => b4
      refine sg hk (g_callO hk (hf := by kernel_rfl) (hc := wlen1_any (bw := bw) (bp := bp) (bm := bm) (wl := wl) (x := (t, d, k, 0)) (ao := ao) (c := c) _ (hS.rd (by (repeat (first | exact At.here | apply At.there)))) (hS.rd (by (repeat (first | exact At.here | apply At.there)))) (OwT.rd (hS.rd (A := OwT 101 [((t, d, k, 0) : TmC)] (.slice ao 1 c)) (by (repeat (first | exact At.here | apply At.there)))))) (h := ?_)); clear hk a; rintro _ w ⟨rfl, hS1⟩ a hk; replace hS := hS.call0 hS1; clear hS1
      (repeat' (first | (show wpListIn _ _ _ _ _ (_ :: _) _ _; first | (refine wx1 ?_; clear hk a; intro a hk) | (refine wx2 ?_ ?_ <;> (intro hp; clear hk a; intro a hk)) | (refine wx3 ?_; clear hk hS a; intro w b hS a hk) | (refine wx4 ?_; clear hk hS a; intro w hS a hk) | (refine wx5 ?_; clear hk hS a; intro w v hS a hk) | fail) | refine wx0 ?_ | (refine s_end hk ?_; clear hk a; intro a hk) | fail))
      · refine done2R hk rfl (.str hS (hT := aT rfl) (hs := zT rfl)) (.tmp rfl) (h := ⟨rfl, ?_⟩)
        refine wheelH.of (bp := bp) (bm := bm) (a := ao) (c := c) ?_
        simp only [wheelL, tmL, tmM, List.length_cons, List.length_nil, List.cons_append, List.nil_append]
        exact hS.sub (.cons (by (repeat (first | exact At.here | apply At.there))) (.cons (by (repeat (first | exact At.here | apply At.there))) (.cons (by (repeat (first | exact At.here | apply At.there))) (.cons (by (repeat (first | exact At.here | apply At.there))) (by (repeat (first | exact Sub.refl | apply Sub.under)))))))
      · exfalso
        have hp : ¬ now < d := by assumption
        omega
def untV (now u : Int) (x : Wt) : Value := match dueW (max now (min u 1099511627776)) x with
  | some (_, _, k) => .tuple #[.agg #[.int .i64 k, .int .i64 0], .bool true]
  | none => .tuple #[.agg #[.int .i64 0, .int .i64 0], .bool false]
def untN (now u : Int) (x : Wt) : Int := match dueW (max now (min u 1099511627776)) x with
  | some (_, d, _) => max now d
  | none => max now (min u 1099511627776)
theorem until_any {bs : Nat} {now wl ql u : Int} {x : Wt} (hS : St B (schedH bs now wl ql x :: L) w) :
    Calls Tryz.prog 26 #[ptV bs, .int .i64 u] w (Ret fun v w' => v = untV now u x ∧ St B (schedH bs (untN now u x) wl ql (restW (max now (min u 1099511627776)) x) :: L) w') := by
  obtain ⟨bw, bq, hS1⟩ := hS.sched (bs := bs) (now := now) (wl := wl) (ql := ql) (x := x) .here
  clear hS
  have hS := hS1
  clear hS1
  simp only [schedL, List.cons_append, List.nil_append] at hS
  have hqx : queueH bq ql x = queueH bq ql (restW (max now (min u 1099511627776)) x) := by
    cases x with
    | tm t d k => unfold restW; simp only; split <;> rfl
    | no => rfl
    | q1 t k => rfl
    | q0 t k => rfl
  rw [hqx] at hS
  refine enter Tryz.func26 rfl Tryz.ntmps26 rfl (fun a hk => ?_)
  (repeat' (first | (show wpListIn _ _ _ _ _ (_ :: _) _ _; first | (refine wx1 ?_; clear hk a; intro a hk) | (refine wx2 ?_ ?_ <;> (intro hp; clear hk a; intro a hk)) | (refine wx3 ?_; clear hk hS a; intro w b hS a hk) | (refine wx4 ?_; clear hk hS a; intro w hS a hk) | (refine wx5 ?_; clear hk hS a; intro w v hS a hk) | fail) | refine wx0 ?_ | (refine s_end hk ?_; clear hk a; intro a hk) | fail))
  rename Nat => b4
  refine sg hk (g_callO hk (hf := by kernel_rfl) (hc := clip_any u now 1099511627776 _) (h := ?_)); clear hk a; rintro _ w ⟨rfl, hS1⟩ a hk; replace hS := hS.call0 hS1; clear hS1
  (repeat' (first | (show wpListIn _ _ _ _ _ (_ :: _) _ _; first | (refine wx1 ?_; clear hk a; intro a hk) | (refine wx2 ?_ ?_ <;> (intro hp; clear hk a; intro a hk)) | (refine wx3 ?_; clear hk hS a; intro w b hS a hk) | (refine wx4 ?_; clear hk hS a; intro w hS a hk) | (refine wx5 ?_; clear hk hS a; intro w v hS a hk) | fail) | refine wx0 ?_ | (refine s_end hk ?_; clear hk a; intro a hk) | fail))
  generalize hm : max now (min u 1099511627776) = mm at *
  refine sg hk (g_callO hk (hf := by kernel_rfl) (hc := wdue_any (bw := bw) (wl := wl) (now := mm) (x := x) (hS.sub (.cons (by (repeat (first | exact At.here | apply At.there))) .refl))) (h := ?_)); clear hk hS a; intro vr w hS a hk
  obtain ⟨rfl, hS⟩ := hS
  unfold dueV at hk
  cases hdw : dueW mm x with
  | none =>
    rw [hdw] at hk
    simp only at hk
    (repeat' (first | (show wpListIn _ _ _ _ _ (_ :: _) _ _; first | (refine wx1 ?_; clear hk a; intro a hk) | (refine wx2 ?_ ?_ <;> (intro hp; clear hk a; intro a hk)) | (refine wx3 ?_; clear hk hS a; intro w b hS a hk) | (refine wx4 ?_; clear hk hS a; intro w hS a hk) | (refine wx5 ?_; clear hk hS a; intro w v hS a hk) | fail) | refine wx0 ?_ | (refine s_end hk ?_; clear hk a; intro a hk) | fail))
    refine done2R hk rfl (.str hS (hT := aT rfl) (hs := zT rfl)) (.tmp rfl) (h := ⟨?_, ?_⟩)
    · unfold untV
      rw [hm, hdw]
      rfl
    · unfold untN
      rw [hm, hdw]
      refine schedH.of (bw := bw) (bq := bq) ?_
      simp only [schedL, List.cons_append, List.nil_append]
      exact hS.sub (.cons (by (repeat (first | exact At.here | apply At.there))) (.cons (by (repeat (first | exact At.here | apply At.there))) (.cons (by (repeat (first | exact At.here | apply At.there))) (by (repeat (first | exact Sub.refl | apply Sub.under))))))
  | some y =>
    obtain ⟨t, d, k⟩ := y
    rw [hdw] at hk
    simp only at hk
    (repeat' (first | (show wpListIn _ _ _ _ _ (_ :: _) _ _; first | (refine wx1 ?_; clear hk a; intro a hk) | (refine wx2 ?_ ?_ <;> (intro hp; clear hk a; intro a hk)) | (refine wx3 ?_; clear hk hS a; intro w b hS a hk) | (refine wx4 ?_; clear hk hS a; intro w hS a hk) | (refine wx5 ?_; clear hk hS a; intro w v hS a hk) | fail) | refine wx0 ?_ | (refine s_end hk ?_; clear hk a; intro a hk) | fail))
    refine wp_drawn 7 mixed (by kernel_rfl) hk hS ?_; clear hk hS a
    (repeat' (first | (show ObxE _ _ _ _ _ _ _ _ _ (_ :: _) _ _ _; first | refine ox1 ?_ | (refine ox2 ?_ ?_ <;> intro hp) | fail) | fail))
    refine obe_nil ⟨rfl, ?_⟩; intro us a w hk hS
    (repeat' (first | (show wpListIn _ _ _ _ _ (_ :: _) _ _; first | (refine wx1 ?_; clear hk a; intro a hk) | (refine wx2 ?_ ?_ <;> (intro hp; clear hk a; intro a hk)) | (refine wx3 ?_; clear hk hS a; intro w b hS a hk) | (refine wx4 ?_; clear hk hS a; intro w hS a hk) | (refine wx5 ?_; clear hk hS a; intro w v hS a hk) | fail) | refine wx0 ?_ | (refine s_end hk ?_; clear hk a; intro a hk) | fail))
    refine done2R hk rfl (.str hS (hT := aT rfl) (hs := zT rfl)) (.tmp rfl) (h := ⟨?_, ?_⟩)
    · unfold untV
      rw [hm, hdw]
      rfl
    · unfold untN
      rw [hm, hdw]
      refine schedH.of (bw := bw) (bq := bq) ?_
      simp only [schedL, List.cons_append, List.nil_append]
      exact hS.sub (.cons (by (repeat (first | exact At.here | apply At.there))) (.cons (by (repeat (first | exact At.here | apply At.there))) (.cons (by (repeat (first | exact At.here | apply At.there))) (by (repeat (first | exact Sub.refl | apply Sub.under))))))
end
end Go.Proofs.YthodcfdgahfniaaGreat
namespace Go.Proofs.YthodcfdgahfniaaGreat
open Go.RowKit
section
variable {P : Program} {Q : Exit → Act → World → Prop} {a : Act} {w w' : World} {n : Nat} {l : List (Nat × Value)} {df : List Deferred} {rr : Option Nat} {ops : Array Oper} {K : Act → World → Prop}
  {d : Nat} {dst : Option Nat} {ty : TypeId} {pos : String} {af : Array Edge} {g : Option (Nat × Bool)} {K1 : Act → World → Prop} {S1 : List PanicEntry → World → Prop}
def QX (df : List Deferred) (K1 : Act → World → Prop) (S1 : List PanicEntry → World → Prop) (e : Exit) (a : Act) (w : World) : Prop := (e = .normal ∧ K1 a w) ∨ ∃ ch, e = .panic ch ∧ a.defers = df ∧ S1 ch w
theorem QX.normal (h : K1 a w) : QX df K1 S1 .normal a w := .inl ⟨rfl, h⟩
theorem qx_put {o : Option Nat} {v : Value} {c : List PanicEntry} (h : QX df K1 S1 (.panic c) (a.put o v) w) : QX df K1 S1 (.panic c) a w := by
  rcases h with ⟨h, _⟩ | ⟨ch, h1, h2, h3⟩
  · cases h
  · refine .inr ⟨ch, h1, ?_, h3⟩
    rw [← h2]; cases o <;> rfl
theorem an_region {id : Nat} (K1 : Act → World → Prop) (S1 : List PanicEntry → World → Prop) (hk : Kn df n a l) (hm : P.follows .mixedOrders = true) (hn : ∀ a w, K1 a w → Q .normal a w) (hp : ∀ ch a w, a.defers = df → S1 ch w → Q (.panic ch) a w)
    (h : Any rr P ops (QX df K1 S1) ops.size (Array.replicate ops.size false) a w.drew) : (Code.region id ops true).wpIn (FR rr) 0 P Q a w := by
  refine wpIn_mono (wpIn_region_any (Q := QX df K1 S1) hm h) (fun e a w hq => ?_)
  rcases hq with ⟨rfl, h⟩ | ⟨ch, rfl, h1, h2⟩
  · exact hn _ _ h
  · exact hp _ _ _ h1 h2
theorem an_take {o : Op} {k i : Nat} {v : Value} {listed : Array Bool} (ho : ops[i]? = some ⟨some d, o, ty, pos, af, none⟩) (hk : Kn df n a l) (hs : Region.noSelect ops = true) (hf : Region.free .any ops listed i = true) (hr : (Region.ready .any ops listed).contains i = true)
    (hp : ∀ w, (execOp a.eval ⟨some d, o, ty, pos, af, none⟩).run P w = .ok (.value v) w) (hab : ∀ w, (⟨some d, o, ty, pos, af, none⟩ : Oper).about P w a.eval = none) (hd : Nat.blt d n = true)
    (h : ∀ a', Kn df n a' ((d, v) :: l) → Any rr P ops (QX df K1 S1) k (listed.setIfInBounds i true) a' w) (hro : rr = none) : Any rr P ops (QX df K1 S1) (k + 1) listed a w := by
  subst hro
  exact wpAnyIn_take (F := FR none) rfl ho hs hf hr (fun c a w => qx_put) ⟨.inl ⟨wanted_none rfl _, hp⟩, hab⟩ (h _ (hk.put (d := some d) hd v))
theorem wp_mid {x y : Code} (R' : Act → World → Prop) (h1 : x.wpIn (FR rr) 0 P (Exit.then R' Q) a w) (h2 : ∀ a w, R' a w → y.wpIn (FR rr) 0 P Q a w) : (Code.seq x y).wpIn (FR rr) 0 P Q a w :=
  wpIn_seq (wpIn_mono h1 (fun e a w h => by cases e <;> first | exact h2 _ _ h | exact h))
theorem y_move {x : Operand} {v : Value} (hk : Kn df n a l) (hx : ev l x = some v) : ∀ w, (execOp a.eval ⟨dst, .move x, ty, pos, af, g⟩).run P w = .ok (.value v) w := fun w => by rw [← hk.eval hx]; rfl
theorem y_field {x : Operand} {T : TypeId} {f b o off sz : Nat} (hk : Kn df n a l) (hf : fldOf P T f = some (off, sz + 1)) (hx : ev l x = some (.pointer (some ⟨b, o, none⟩))) :
    ∀ w, (execOp a.eval ⟨dst, .fieldAddr T x f, ty, pos, af, g⟩).run P w = .ok (.value (.pointer (some ⟨b, o + off, none⟩))) w := fun w => by
  unfold fldOf at hf
  cases hu : P.underlying T with
  | none => rw [hu] at hf; simp at hf
  | some dsc =>
    rw [hu] at hf
    cases dsc <;> simp only [reduceCtorEq] at hf
    case struct fs =>
      cases hfs : fs[f]? with
      | none => rw [hfs] at hf; simp at hf
      | some fl =>
        rw [hfs] at hf
        simp only [Option.some.injEq, Prod.mk.injEq] at hf
        obtain ⟨h1, h2⟩ := hf
        have h3 : szOf P fl.type = some (sz + 1) := by
          cases hz : szOf P fl.type with
          | none => rw [hz] at h2; simp at h2
          | some z => rw [hz] at h2; simp at h2; rw [h2]
        simp [execOp, hk.eval hx, Instr.fieldAt, run_underlying hu, hfs, Instr.sureAddr, fieldPlace, szOf_run h3, h1, addr_add]
end
end Go.Proofs.YthodcfdgahfniaaGreat
namespace Go.Proofs.YthodcfdgahfniaaGreat
open Go.RowKit
section
variable {P : Program} {Q : Exit → Act → World → Prop} {a : Act} {w w' : World} {n : Nat} {l : List (Nat × Value)} {df : List Deferred} {rr : Option Nat} {ops : Array Oper} {K : Act → World → Prop}
  {d : Nat} {dst : Option Nat} {ty : TypeId} {pos : String} {af : Array Edge} {g : Option (Nat × Bool)}
end
end Go.Proofs.YthodcfdgahfniaaGreat
