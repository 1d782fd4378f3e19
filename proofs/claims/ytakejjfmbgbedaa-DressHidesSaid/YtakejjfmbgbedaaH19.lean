/- Layer 20: what a node has, with its look's marks. Layer 20: what a node of a view has, as the program and as the document have it. Layer 20: marks as the document has them. Layer 20: the awakening, and which looks may be. Layers 3 and 4: lists that are the same. Layer 20: what a node has with its marks, by the document. -/
import Derived.Test.YtakejjfmbgbedaaH18
import Derived.Test.YtakejjfmbgbedaaH17
import Derived.Test.YtakejjfmbgbedaaH13
import Derived.Test.YtakejjfmbgbedaaH14
namespace Go.Proofs.Ytakejjfmbgbedaa
open Go.RowKit
set_option maxRecDepth 100000
attribute [local irreducible] Go.Code.wpIn Go.wpListIn Go.Calls Gives Go.Exit.then Go.Exit.inBlock Done ObxE

def hdOf : Value → Hd
  | .slice a n c => ⟨a, n, c⟩
  | _ => ⟨none, 0, 0⟩

def ghoP (k : Int) : List PrS := if ghoL k = true then [(⟨#[116, 45, 103, 104, 111, 115, 116]⟩, ⟨#[]⟩)] else []
def movP (m x y : Int) : List PrI := if m = 1 then [(⟨#[116, 45, 100, 120]⟩, x), (⟨#[116, 45, 100, 121]⟩, y)] else []

theorem cls_len (k m : Int) : (clsL k m).length ≤ 3 := by
  have := mkL_len k
  unfold clsL
  split
  · simp; omega
  · simp; omega

set_option maxHeartbeats 4000000 in
theorem put_any (cl : List ByteArray) (sl : List PrS) (il : List PrI) (k m x y : Int) (vc vs vi : Value) (w0 : World) (hc : SlT cl vc w0) (hs : SlT sl vs w0) (hi : SlT il vi w0)
    (hcl : cl.length ≤ 800) (hsl : sl.length ≤ 800) (hil : il.length ≤ 800) :
    Calls Try.prog 11 #[.agg #[.int .i64 k, .int .i64 m, .int .i64 x, .int .i64 y], .agg #[vc, vs, vi]] w0
      (Ret fun v w => ∃ a b c, v = .agg #[a, b, c] ∧ St w0 [OwT 9 (clnC (cl ++ clsL k m)) a, OwT 61 (snapF nmS (sl ++ ghoP k)) b, OwT 86 (snapF nmI (il ++ movP m x y)) c] w) := by
  have hkl := cls_len k m
  obtain ⟨a1, c1, rfl, _⟩ := hc.shape
  obtain ⟨a2, c2, rfl, _⟩ := hs.shape
  obtain ⟨a3, c3, rfl, _⟩ := hi.shape
  refine enter Try.func11 rfl Try.ntmps11 rfl (fun a hk => ?_); have hS := St.refl w0
  (repeat' (first | (show wpListIn _ _ _ _ _ (_ :: _) _ _; first | (refine wx1 ?_; clear hk a; intro a hk) | (refine wx2 ?_ ?_ <;> (intro hp; clear hk a; intro a hk)) | (refine wx3 ?_; clear hk hS a; intro w b hS a hk) | (refine wx4 ?_; clear hk hS a; intro w hS a hk) | (refine wx5 ?_; clear hk hS a; intro w v hS a hk) | fail) | refine wx0 ?_ | (refine s_end hk ?_; clear hk a; intro a hk) | fail))
  refine wp_drawn 15 mixed (by kernel_rfl) hk hS ?_; clear hk hS a
  (repeat' (first | (show ObxE _ _ _ _ _ _ _ _ _ (_ :: _) _ _ _; first | refine ox1 ?_ | (refine ox2 ?_ ?_ <;> intro hp) | fail) | fail))
  refine' obe_res (fun us a w hk hd hS => ?_) ?_; rotate_left; focus (have hk := Kn.vw hk (by repeat (first | exact VW.nil | apply VW.val rfl | apply VW.base rfl rfl | apply VW.res rfl | apply VW.upd rfl | apply VW.cpy rfl | apply VW.dep rfl | apply VW.fn rfl | apply VW.lnd rfl | apply VW.tak rfl)); exact g_callO hk (hf := by kernel_rfl) (hc := classes_any k m x y _) (h := fun _ _ h => h))
  refine' obe_dep 9 3 (V := fun u v => OwT 22 [⟨a1, cl.length, c1⟩, hdOf u] v) (fun us a w hk hd hS => ?_) ?_
  · have hk := Kn.vw hk (by repeat (first | exact VW.nil | apply VW.val rfl | apply VW.base rfl rfl | apply VW.res rfl | apply VW.upd rfl | apply VW.cpy rfl | apply VW.dep rfl | apply VW.fn rfl | apply VW.lnd rfl | apply VW.tak rfl))
    have hG : (OwT 9 (clsL k m) (us 3)).rd w := hd.2.1
    obtain ⟨ao, c, he, _⟩ := (OwT.rd hG).shape
    show Gives _ _ _ _ (fun v w' => St w [OwT 22 [⟨a1, cl.length, c1⟩, hdOf (us 3)] v] w')
    simp only [Nat.zero_add, Nat.reduceAdd] at hk
    rw [he] at hk ⊢
    exact v_bsT (xs := [(⟨a1, cl.length, c1⟩ : Hd), ⟨ao, (clsL k m).length, c⟩]) (m := 1) hk (hT := eT rfl) (hE := zT rfl) (hz := oT rfl)
  refine' obe_res2 (V := fun v => OwT 9 (cl ++ clsL k m) v) (fun us a w hk hd hd2 hS => ?_) ?_
  · have hk := Kn.vw hk (by repeat (first | exact VW.nil | apply VW.val rfl | apply VW.base rfl rfl | apply VW.res rfl | apply VW.upd rfl | apply VW.cpy rfl | apply VW.dep rfl | apply VW.fn rfl | apply VW.lnd rfl | apply VW.tak rfl))
    have hG : (OwT 9 (clsL k m) (us 3)).rd w := hd2 10 (by decide) 4 _ rfl 3 (List.mem_singleton.2 rfl) 9 _ (List.Mem.tail _ (List.Mem.head _)) _ rfl
    obtain ⟨ao, c, he, _⟩ := (OwT.rd hG).shape
    have hV : SlT ([⟨a1, cl.length, c1⟩, hdOf (us 3)] : List Hd) (us 4) w := OwT.rd (show (OwT 22 [⟨a1, cl.length, c1⟩, hdOf (us 3)] (us (0 + 1 + 1 + 1 + 1))).rd w from hd.1)
    have hG' := OwT.rd hG
    rw [he] at hV hG'
    exact g_callO hk (hf := by kernel_rfl) (hc := concat2_any cl (clsL k m) a1 ao c1 c _ _ hV (hS.rdT hc) hG' (by omega)) (h := fun _ _ h => h)
  refine' obe_res (fun us a w hk hd hS => ?_) ?_; rotate_left; focus (have hk := Kn.vw hk (by repeat (first | exact VW.nil | apply VW.val rfl | apply VW.base rfl rfl | apply VW.res rfl | apply VW.upd rfl | apply VW.cpy rfl | apply VW.dep rfl | apply VW.fn rfl | apply VW.lnd rfl | apply VW.tak rfl)); exact g_callO hk (hf := by kernel_rfl) (hc := clean_any (cl ++ clsL k m) _ _ (OwT.rd hd.1) (by simp only [List.length_append]; omega)) (h := fun _ _ h => h))
  (repeat' (first | (show ObxE _ _ _ _ _ _ _ _ _ (_ :: _) _ _ _; first | refine ox1 ?_ | (refine ox2 ?_ ?_ <;> intro hp) | fail) | fail))
  refine' obe_res (fun us a w hk hd hS => ?_) ?_; rotate_left; focus (have hk := Kn.vw hk (by repeat (first | exact VW.nil | apply VW.val rfl | apply VW.base rfl rfl | apply VW.res rfl | apply VW.upd rfl | apply VW.cpy rfl | apply VW.dep rfl | apply VW.fn rfl | apply VW.lnd rfl | apply VW.tak rfl)); exact g_callO hk (hf := by kernel_rfl) (hc := ofS_any sl _ _ (hS.rdT hs) (by omega)) (h := fun _ _ h => h))
  (repeat' (first | (show ObxE _ _ _ _ _ _ _ _ _ (_ :: _) _ _ _; first | refine ox1 ?_ | (refine ox2 ?_ ?_ <;> intro hp) | fail) | fail))
  refine' obe_res (fun us a w hk hd hS => ?_) ?_; rotate_left; focus (have hk := Kn.vw hk (by repeat (first | exact VW.nil | apply VW.val rfl | apply VW.base rfl rfl | apply VW.res rfl | apply VW.upd rfl | apply VW.cpy rfl | apply VW.dep rfl | apply VW.fn rfl | apply VW.lnd rfl | apply VW.tak rfl)); exact g_callO hk (hf := by kernel_rfl) (hc := ofI_any il _ _ (hS.rdT hi) (by omega)) (h := fun _ _ h => h))
  refine' obe_fn [6, 9, 12] (fun l => .agg l.toArray) (fun us a w hk hd hS => ?_) ?_ (by intro k e; simp only [List.mem_cons, List.not_mem_nil, or_false] at e; rcases e with rfl | rfl | rfl; exact ⟨12, _, rfl, rfl⟩; exact ⟨15, _, rfl, rfl⟩; exact ⟨18, _, rfl, rfl⟩)
  · have hk := Kn.vw hk (by repeat (first | exact VW.nil | apply VW.val rfl | apply VW.base rfl rfl | apply VW.res rfl | apply VW.upd rfl | apply VW.cpy rfl | apply VW.dep rfl | apply VW.fn rfl | apply VW.lnd rfl | apply VW.tak rfl))
    have h1 : (OwT 9 (clnC (cl ++ clsL k m)) (us 6)).rd w := hd.1
    have h2 : (OwT 61 (snapF nmS sl) (us 9)).rd w := hd.2.1
    have h3 : (OwT 86 (snapF nmI il) (us 12)).rd w := hd.2.2.1
    obtain ⟨_, _, e1, _⟩ := (OwT.rd h1).shape
    obtain ⟨_, _, e2, _⟩ := (OwT.rd h2).shape
    obtain ⟨_, _, e3, _⟩ := (OwT.rd h3).shape
    simp only [Nat.zero_add, Nat.reduceAdd] at hk
    simp only [List.map]
    rw [e1, e2, e3] at hk ⊢
    exact g_build hk ⟨rfl, St.refl w⟩ (fsT rfl) (oT rfl)
  refine' obe_res (fun us a w hk hd hS => ?_) ?_; rotate_left; focus (have hk := Kn.vw hk (by repeat (first | exact VW.nil | apply VW.val rfl | apply VW.base rfl rfl | apply VW.res rfl | apply VW.upd rfl | apply VW.cpy rfl | apply VW.dep rfl | apply VW.fn rfl | apply VW.lnd rfl | apply VW.tak rfl)); exact v_alloc hk (oT rfl))
  refine obe_nil ⟨rfl, ?_⟩; intro us a w hk hS
  simp only [resE, List.cons_append, List.nil_append, Nat.zero_add, Nat.reduceAdd] at hS
  obtain ⟨b5, hb5, hS1⟩ := hS.ptv (by (repeat (first | exact At.here | apply At.there))); replace hS := hS1; clear hS1
  replace hk := Kn.kp [2, 3, 4, 19, 5] hk
  simp only [HV.of, List.map, Nat.zero_add, Nat.reduceAdd] at hk
  generalize us 3 = v9 at hS hk
  generalize us 4 = v10 at hS hk
  generalize us 5 = v11 at hS hk
  generalize us 6 = v12 at hS hk
  generalize us 9 = v15 at hS hk
  generalize us 12 = v18 at hS hk
  rw [hb5] at hk
  obtain ⟨aov12, cv12, hshp, _⟩ := (OwT.rd (hS.rd (A := OwT 9 _ v12) (by (repeat (first | exact At.here | apply At.there))))).shape; subst hshp
  obtain ⟨aov15, cv15, hshp, _⟩ := (OwT.rd (hS.rd (A := OwT 61 _ v15) (by (repeat (first | exact At.here | apply At.there))))).shape; subst hshp
  obtain ⟨aov18, cv18, hshp, _⟩ := (OwT.rd (hS.rd (A := OwT 86 _ v18) (by (repeat (first | exact At.here | apply At.there))))).shape; subst hshp
  (repeat' (first | (show wpListIn _ _ _ _ _ (_ :: _) _ _; first | (refine wx1 ?_; clear hk a; intro a hk) | (refine wx2 ?_ ?_ <;> (intro hp; clear hk a; intro a hk)) | (refine wx3 ?_; clear hk hS a; intro w b hS a hk) | (refine wx4 ?_; clear hk hS a; intro w hS a hk) | (refine wx5 ?_; clear hk hS a; intro w v hS a hk) | fail) | refine wx0 ?_ | (refine s_end hk ?_; clear hk a; intro a hk) | fail))
  refine sg hk (g_callO hk (hf := by kernel_rfl) (hc := ghost_any k m x y _) (h := ?_)); clear hk a; rintro _ w ⟨rfl, hS1⟩ a hk; replace hS := hS.call0 hS1; clear hS1
  (repeat' (first | (show wpListIn _ _ _ _ _ (_ :: _) _ _; first | (refine wx1 ?_; clear hk a; intro a hk) | (refine wx2 ?_ ?_ <;> (intro hp; clear hk a; intro a hk)) | (refine wx3 ?_; clear hk hS a; intro w b hS a hk) | (refine wx4 ?_; clear hk hS a; intro w hS a hk) | (refine wx5 ?_; clear hk hS a; intro w v hS a hk) | fail) | refine wx0 ?_ | (refine s_end hk ?_; clear hk a; intro a hk) | fail))
  have hs1 := snap_len nmS sl
  have hs2 := snap_len nmI il
  have hs3 := snap_len nmI (snapF nmI il ++ [(⟨#[116, 45, 100, 120]⟩, x)])
  rw [List.length_append, List.length_singleton] at hs3
  have setI2 : ∀ (l : List PrI) (k : ByteArray) (x : Int) (v : Value) (w0 : World) (hv : SlT l v w0) (hl : l.length ≤ 1000),
      Calls Try.prog 36 #[v, .string k, .int .i64 x] w0 (Ret fun v w => St w0 [OwT 86 (snapF nmI (l ++ [(k, x)])) v] w) := by
    intro l k x v w0 hv hl
    rw [snap_snoc]
    exact setI_any l k x v w0 hv hl
  cases hg : ghoL k with
  | true =>
    have hgp : ghoP k = [(⟨#[116, 45, 103, 104, 111, 115, 116]⟩, ⟨#[]⟩)] := by unfold ghoP; rw [if_pos hg]
    rw [hgp]
    rw [hg] at hk
    (repeat' (first | (show wpListIn _ _ _ _ _ (_ :: _) _ _; first | (refine wx1 ?_; clear hk a; intro a hk) | (refine wx2 ?_ ?_ <;> (intro hp; clear hk a; intro a hk)) | (refine wx3 ?_; clear hk hS a; intro w b hS a hk) | (refine wx4 ?_; clear hk hS a; intro w hS a hk) | (refine wx5 ?_; clear hk hS a; intro w v hS a hk) | fail) | refine wx0 ?_ | (refine s_end hk ?_; clear hk a; intro a hk) | fail))
    refine sg hk (g_callO hk (hf := by kernel_rfl) (hc := setS_any (snapF nmS sl) ⟨#[116, 45, 103, 104, 111, 115, 116]⟩ ⟨#[]⟩ _ _ (by first | exact St.rdT hS (by assumption) | exact OwT.rd (hS.rd (A := OwT _ _ _) (by (repeat (first | exact At.here | apply At.there)))) | assumption) (by omega)) (h := ?_)); clear hk a; rintro vg w hS1 a hk; replace hS := hS.call hS1; clear hS1
    rw [snap_snap, ← snap_snoc nmS sl] at hS
    obtain ⟨aovg, cvg, hshp, _⟩ := (OwT.rd (hS.rd (A := OwT 61 _ vg) (by (repeat (first | exact At.here | apply At.there))))).shape; subst hshp
    by_cases hm : m = 1
    · have hmp : movP m x y = [(⟨#[116, 45, 100, 120]⟩, x), (⟨#[116, 45, 100, 121]⟩, y)] := by unfold movP; rw [if_pos hm]
      rw [hmp]
      (repeat' (first | (show wpListIn _ _ _ _ _ (_ :: _) _ _; first | (refine wx1 ?_; clear hk a; intro a hk) | (refine wx2 ?_ ?_ <;> (intro hp; clear hk a; intro a hk)) | (refine wx3 ?_; clear hk hS a; intro w b hS a hk) | (refine wx4 ?_; clear hk hS a; intro w hS a hk) | (refine wx5 ?_; clear hk hS a; intro w v hS a hk) | fail) | refine wx0 ?_ | (refine s_end hk ?_; clear hk a; intro a hk) | fail))
      refine wp_drawn 9 mixed (by kernel_rfl) hk hS ?_; clear hk hS a
      (repeat' (first | (show ObxE _ _ _ _ _ _ _ _ _ (_ :: _) _ _ _; first | refine ox1 ?_ | (refine ox2 ?_ ?_ <;> intro hp) | fail) | fail))
      refine' obe_res (fun us a w hk hd hS => ?_) ?_; rotate_left; focus (have hk := Kn.vw hk (by repeat (first | exact VW.nil | apply VW.val rfl | apply VW.base rfl rfl | apply VW.res rfl | apply VW.upd rfl | apply VW.cpy rfl | apply VW.dep rfl | apply VW.fn rfl | apply VW.lnd rfl | apply VW.tak rfl)); exact g_callO hk (hf := by kernel_rfl) (hc := setI2 (snapF nmI il) ⟨#[116, 45, 100, 120]⟩ x _ _ (by first | exact St.rdT hS (by assumption) | exact OwT.rd (hS.rd (A := OwT _ _ _) (by (repeat (first | exact At.here | apply At.there)))) | assumption) (by omega)) (h := fun _ _ h => h))
      (repeat' (first | (show ObxE _ _ _ _ _ _ _ _ _ (_ :: _) _ _ _; first | refine ox1 ?_ | (refine ox2 ?_ ?_ <;> intro hp) | fail) | fail))
      refine' obe_res (fun us a w hk hd hS => ?_) ?_; rotate_left; focus (have hk := Kn.vw hk (by repeat (first | exact VW.nil | apply VW.val rfl | apply VW.base rfl rfl | apply VW.res rfl | apply VW.upd rfl | apply VW.cpy rfl | apply VW.dep rfl | apply VW.fn rfl | apply VW.lnd rfl | apply VW.tak rfl)); exact g_callO hk (hf := by kernel_rfl) (hc := setI2 (snapF nmI (snapF nmI il ++ [((⟨#[116, 45, 100, 120]⟩ : ByteArray), x)])) ⟨#[116, 45, 100, 121]⟩ y _ _ (OwT.rd hd.1) (by omega)) (h := fun _ _ h => h))
      (repeat' (first | (show ObxE _ _ _ _ _ _ _ _ _ (_ :: _) _ _ _; first | refine ox1 ?_ | (refine ox2 ?_ ?_ <;> intro hp) | fail) | fail))
      refine obe_nil ⟨rfl, ?_⟩; intro us a w hk hS
      simp only [resE, List.cons_append, List.nil_append, Nat.zero_add, Nat.reduceAdd] at hS
      replace hk := Kn.kp [2, 3, 4, 5, 36, 37] hk
      simp only [HV.of, Nat.zero_add, Nat.reduceAdd] at hk
      generalize us 4 = v33 at hS hk
      generalize us 7 = v36 at hS hk
      obtain ⟨aov36, cv36, hshp, _⟩ := (OwT.rd (hS.rd (A := OwT 86 _ v36) (by (repeat (first | exact At.here | apply At.there))))).shape; subst hshp
      (repeat' (first | (show wpListIn _ _ _ _ _ (_ :: _) _ _; first | (refine wx1 ?_; clear hk a; intro a hk) | (refine wx2 ?_ ?_ <;> (intro hp; clear hk a; intro a hk)) | (refine wx3 ?_; clear hk hS a; intro w b hS a hk) | (refine wx4 ?_; clear hk hS a; intro w hS a hk) | (refine wx5 ?_; clear hk hS a; intro w v hS a hk) | fail) | refine wx0 ?_ | (refine s_end hk ?_; clear hk a; intro a hk) | fail))
      have e : snapF nmI (snapF nmI (snapF nmI il ++ [(⟨#[116, 45, 100, 120]⟩, x)]) ++ [(⟨#[116, 45, 100, 121]⟩, y)]) = snapF nmI (il ++ [(⟨#[116, 45, 100, 120]⟩, x), (⟨#[116, 45, 100, 121]⟩, y)]) := by
        rw [snap_snoc nmI (snapF nmI _), snap_snap, snap_snoc nmI (snapF nmI il), snap_snap, show il ++ [(⟨#[116, 45, 100, 120]⟩, x), (⟨#[116, 45, 100, 121]⟩, y)] = (il ++ [(⟨#[116, 45, 100, 120]⟩, x)]) ++ [(⟨#[116, 45, 100, 121]⟩, y)] by simp, snap_snoc, snap_snoc]
      rw [e] at hS hk
      exact done1R hk rfl (.str hS (hT := aT rfl) (hs := zT rfl)) (h := ⟨_, _, _, rfl, hS.sb⟩)
    · have hmp : movP m x y = [] := by unfold movP; rw [if_neg hm]
      rw [hmp, List.append_nil]
      (repeat' (first | (show wpListIn _ _ _ _ _ (_ :: _) _ _; first | (refine wx1 ?_; clear hk a; intro a hk) | (refine wx2 ?_ ?_ <;> (intro hp; clear hk a; intro a hk)) | (refine wx3 ?_; clear hk hS a; intro w b hS a hk) | (refine wx4 ?_; clear hk hS a; intro w hS a hk) | (refine wx5 ?_; clear hk hS a; intro w v hS a hk) | fail) | refine wx0 ?_ | (refine s_end hk ?_; clear hk a; intro a hk) | fail))
      exact done1R hk rfl (.str hS (hT := aT rfl) (hs := zT rfl)) (h := ⟨_, _, _, rfl, hS.sb⟩)
  | false =>
    have hgp : ghoP k = [] := by unfold ghoP; rw [hg]; rfl
    rw [hgp, List.append_nil]
    rw [hg] at hk
    by_cases hm : m = 1
    · have hmp : movP m x y = [(⟨#[116, 45, 100, 120]⟩, x), (⟨#[116, 45, 100, 121]⟩, y)] := by unfold movP; rw [if_pos hm]
      rw [hmp]
      (repeat' (first | (show wpListIn _ _ _ _ _ (_ :: _) _ _; first | (refine wx1 ?_; clear hk a; intro a hk) | (refine wx2 ?_ ?_ <;> (intro hp; clear hk a; intro a hk)) | (refine wx3 ?_; clear hk hS a; intro w b hS a hk) | (refine wx4 ?_; clear hk hS a; intro w hS a hk) | (refine wx5 ?_; clear hk hS a; intro w v hS a hk) | fail) | refine wx0 ?_ | (refine s_end hk ?_; clear hk a; intro a hk) | fail))
      refine wp_drawn 9 mixed (by kernel_rfl) hk hS ?_; clear hk hS a
      (repeat' (first | (show ObxE _ _ _ _ _ _ _ _ _ (_ :: _) _ _ _; first | refine ox1 ?_ | (refine ox2 ?_ ?_ <;> intro hp) | fail) | fail))
      refine' obe_res (fun us a w hk hd hS => ?_) ?_; rotate_left; focus (have hk := Kn.vw hk (by repeat (first | exact VW.nil | apply VW.val rfl | apply VW.base rfl rfl | apply VW.res rfl | apply VW.upd rfl | apply VW.cpy rfl | apply VW.dep rfl | apply VW.fn rfl | apply VW.lnd rfl | apply VW.tak rfl)); exact g_callO hk (hf := by kernel_rfl) (hc := setI2 (snapF nmI il) ⟨#[116, 45, 100, 120]⟩ x _ _ (by first | exact St.rdT hS (by assumption) | exact OwT.rd (hS.rd (A := OwT _ _ _) (by (repeat (first | exact At.here | apply At.there)))) | assumption) (by omega)) (h := fun _ _ h => h))
      (repeat' (first | (show ObxE _ _ _ _ _ _ _ _ _ (_ :: _) _ _ _; first | refine ox1 ?_ | (refine ox2 ?_ ?_ <;> intro hp) | fail) | fail))
      refine' obe_res (fun us a w hk hd hS => ?_) ?_; rotate_left; focus (have hk := Kn.vw hk (by repeat (first | exact VW.nil | apply VW.val rfl | apply VW.base rfl rfl | apply VW.res rfl | apply VW.upd rfl | apply VW.cpy rfl | apply VW.dep rfl | apply VW.fn rfl | apply VW.lnd rfl | apply VW.tak rfl)); exact g_callO hk (hf := by kernel_rfl) (hc := setI2 (snapF nmI (snapF nmI il ++ [((⟨#[116, 45, 100, 120]⟩ : ByteArray), x)])) ⟨#[116, 45, 100, 121]⟩ y _ _ (OwT.rd hd.1) (by omega)) (h := fun _ _ h => h))
      (repeat' (first | (show ObxE _ _ _ _ _ _ _ _ _ (_ :: _) _ _ _; first | refine ox1 ?_ | (refine ox2 ?_ ?_ <;> intro hp) | fail) | fail))
      refine obe_nil ⟨rfl, ?_⟩; intro us a w hk hS
      simp only [resE, List.cons_append, List.nil_append, Nat.zero_add, Nat.reduceAdd] at hS
      replace hk := Kn.kp [2, 3, 4, 5, 36, 37] hk
      simp only [HV.of, Nat.zero_add, Nat.reduceAdd] at hk
      generalize us 4 = v33 at hS hk
      generalize us 7 = v36 at hS hk
      obtain ⟨aov36, cv36, hshp, _⟩ := (OwT.rd (hS.rd (A := OwT 86 _ v36) (by (repeat (first | exact At.here | apply At.there))))).shape; subst hshp
      (repeat' (first | (show wpListIn _ _ _ _ _ (_ :: _) _ _; first | (refine wx1 ?_; clear hk a; intro a hk) | (refine wx2 ?_ ?_ <;> (intro hp; clear hk a; intro a hk)) | (refine wx3 ?_; clear hk hS a; intro w b hS a hk) | (refine wx4 ?_; clear hk hS a; intro w hS a hk) | (refine wx5 ?_; clear hk hS a; intro w v hS a hk) | fail) | refine wx0 ?_ | (refine s_end hk ?_; clear hk a; intro a hk) | fail))
      have e : snapF nmI (snapF nmI (snapF nmI il ++ [(⟨#[116, 45, 100, 120]⟩, x)]) ++ [(⟨#[116, 45, 100, 121]⟩, y)]) = snapF nmI (il ++ [(⟨#[116, 45, 100, 120]⟩, x), (⟨#[116, 45, 100, 121]⟩, y)]) := by
        rw [snap_snoc nmI (snapF nmI _), snap_snap, snap_snoc nmI (snapF nmI il), snap_snap, show il ++ [(⟨#[116, 45, 100, 120]⟩, x), (⟨#[116, 45, 100, 121]⟩, y)] = (il ++ [(⟨#[116, 45, 100, 120]⟩, x)]) ++ [(⟨#[116, 45, 100, 121]⟩, y)] by simp, snap_snoc, snap_snoc]
      rw [e] at hS hk
      exact done1R hk rfl (.str hS (hT := aT rfl) (hs := zT rfl)) (h := ⟨_, _, _, rfl, hS.sb⟩)
    · have hmp : movP m x y = [] := by unfold movP; rw [if_neg hm]
      rw [hmp, List.append_nil]
      (repeat' (first | (show wpListIn _ _ _ _ _ (_ :: _) _ _; first | (refine wx1 ?_; clear hk a; intro a hk) | (refine wx2 ?_ ?_ <;> (intro hp; clear hk a; intro a hk)) | (refine wx3 ?_; clear hk hS a; intro w b hS a hk) | (refine wx4 ?_; clear hk hS a; intro w hS a hk) | (refine wx5 ?_; clear hk hS a; intro w v hS a hk) | fail) | refine wx0 ?_ | (refine s_end hk ?_; clear hk a; intro a hk) | fail))
      exact done1R hk rfl (.str hS (hT := aT rfl) (hs := zT rfl)) (h := ⟨_, _, _, rfl, hS.sb⟩)
end Go.Proofs.Ytakejjfmbgbedaa
namespace Go.Proofs.Ytakejjfmbgbedaa
open Go.RowKit
set_option maxRecDepth 100000
attribute [local irreducible] Go.Code.wpIn Go.wpListIn Go.Calls Gives Go.Exit.then Go.Exit.inBlock Done ObxE

def hV (h : NdH) : Value := .agg #[h.2.2.2.2.1.v, h.2.2.2.2.2.1.v, h.2.2.2.2.2.2.1.v]

set_option maxHeartbeats 4000000 in
theorem own20_any (t : Tree) (h : NdH) (w0 : World) (hf : Fit 70 t) (hr : TrR w0 t h) : Calls Try.prog 8 #[ndV h] w0
    (Ret fun v w => ∃ h1 h2, v = .tuple #[hV h1, hV h2] ∧ St w0 [treeR (nrm t) h1, treeR (nrm t) h2] w) := by
  have hf2 := hf.nrm.fits
  obtain ⟨k, tag, key, text, cl, al, sl, e, lv, m, d, p, q, kids, a1, m1, a2, m2, a3, m3, a4, m4, H, rfl, rfl, -⟩ := hr.split
  generalize hT : Tree.mk k tag key text cl al sl (e, lv, m, d, p, q) kids = T at *
  show Calls Try.prog 8 #[.agg #[.int .i64 k, .string tag, .string key, .string text, .slice a1 cl.length m1, .slice a2 al.length m2, .slice a3 sl.length m3, .int .i64 e, .int .i64 lv, .int .i64 m, .int .i64 d, .bool p, .bool q, .slice a4 H.length m4]] w0 _
  refine enter Try.func8 rfl Try.ntmps8 rfl (fun a hk => ?_); have hS := St.refl w0
  (repeat' (first | (show wpListIn _ _ _ _ _ (_ :: _) _ _; first | (refine wx1 ?_; clear hk a; intro a hk) | (refine wx2 ?_ ?_ <;> (intro hp; clear hk a; intro a hk)) | (refine wx3 ?_; clear hk hS a; intro w b hS a hk) | (refine wx4 ?_; clear hk hS a; intro w hS a hk) | (refine wx5 ?_; clear hk hS a; intro w v hS a hk) | fail) | refine wx0 ?_ | (refine s_end hk ?_; clear hk a; intro a hk) | fail))
  rename_i b1 w1 b2
  rename Nat => b3
  refine sg hk (g_callO hk (hf := by kernel_rfl) (hc := rnormal_any 70 (by omega) (SizeOf.sizeOf T + 1) T _ _ (by omega) hf (hS.rdTr hr)) (h := ?_)); clear hk a; rintro vn w hS1 a hk; replace hS := hS.call hS1; clear hS1
  rw [List.cons_append, List.nil_append] at hS
  obtain ⟨hd1, rfl, hS1⟩ := St.tree hS .here
  clear hS
  have hS := hS1
  clear hS1
  obtain ⟨k0, tag0, key0, text0, cl0, al0, sl0, e0, lv0, m0, d0, p0, q0, kids0, A1, M1, A2, M2, A3, M3, A4, M4, H0, he0, rfl, -⟩ := (hS.trR .here).split
  (repeat' (first | (show wpListIn _ _ _ _ _ (_ :: _) _ _; first | (refine wx1 ?_; clear hk a; intro a hk) | (refine wx2 ?_ ?_ <;> (intro hp; clear hk a; intro a hk)) | (refine wx3 ?_; clear hk hS a; intro w b hS a hk) | (refine wx4 ?_; clear hk hS a; intro w hS a hk) | (refine wx5 ?_; clear hk hS a; intro w v hS a hk) | fail) | refine wx0 ?_ | (refine s_end hk ?_; clear hk a; intro a hk) | fail))
  refine sg hk (g_callO hk (hf := by kernel_rfl) (hc := own07_any (SizeOf.sizeOf (nrm T) + 1) (nrm T) (k0, tag0, key0, text0, ⟨A1, cl0.length, M1⟩, ⟨A2, al0.length, M2⟩, ⟨A3, sl0.length, M3⟩, (e0, lv0, m0, d0, p0, q0), ⟨A4, H0.length, M4⟩) _ (by omega) hf2 (hS.trR (by (repeat (first | exact At.here | apply At.there))))) (h := ?_)); clear hk a; rintro vm w hS1 a hk; replace hS := hS.call hS1; clear hS1
  rw [List.cons_append, List.nil_append] at hS
  obtain ⟨hd1, rfl, hS1⟩ := St.tree hS .here
  clear hS
  have hS := hS1
  clear hS1
  obtain ⟨k1, tag1, key1, text1, cl1, al1, sl1, e1, lv1, m1', d1, p1, q1, kids1, B1, N1, B2, N2, B3, N3, B4, N4, H1, he1, rfl, -⟩ := (hS.trR .here).split
  (repeat' (first | (show wpListIn _ _ _ _ _ (_ :: _) _ _; first | (refine wx1 ?_; clear hk a; intro a hk) | (refine wx2 ?_ ?_ <;> (intro hp; clear hk a; intro a hk)) | (refine wx3 ?_; clear hk hS a; intro w b hS a hk) | (refine wx4 ?_; clear hk hS a; intro w hS a hk) | (refine wx5 ?_; clear hk hS a; intro w v hS a hk) | fail) | refine wx0 ?_ | (refine s_end hk ?_; clear hk a; intro a hk) | fail))
  rename_i b4 wa wb wc
  replace hS : St w0 (pts b2 [.slice none 0 0, .slice none 0 0, .slice none 0 0] 37 :: pts b3 [.slice none 0 0, .slice none 0 0, .slice none 0 0] 39 :: pts b [.int .i64 k1, .string tag1, .string key1, .string text1, .slice B1 cl1.length N1, .slice B2 al1.length N2, .slice B3 sl1.length N3, .int .i64 e1, .int .i64 lv1, .int .i64 m1', .int .i64 d1, .bool p1, .bool q1, .slice B4 H1.length N4] 66 ::
    treeR (nrm T) (k1, tag1, key1, text1, ⟨B1, cl1.length, N1⟩, ⟨B2, al1.length, N2⟩, ⟨B3, sl1.length, N3⟩, (e1, lv1, m1', d1, p1, q1), ⟨B4, H1.length, N4⟩) ::
    pts b4 [.int .i64 k0, .string tag0, .string key0, .string text0, .slice A1 cl0.length M1, .slice A2 al0.length M2, .slice A3 sl0.length M3, .int .i64 e0, .int .i64 lv0, .int .i64 m0, .int .i64 d0, .bool p0, .bool q0, .slice A4 H0.length M4] 44 ::
    treeR (nrm T) (k0, tag0, key0, text0, ⟨A1, cl0.length, M1⟩, ⟨A2, al0.length, M2⟩, ⟨A3, sl0.length, M3⟩, (e0, lv0, m0, d0, p0, q0), ⟨A4, H0.length, M4⟩) :: []) w := hS.sub (by (repeat (first | exact Sub.nil | exact Sub.refl | refine Sub.cons (by (repeat (first | exact At.here | apply At.there))) ?_)))
  refine wp_drawnU1 15 mixed (by kernel_rfl) hk hS ?_; clear hk hS a
  (repeat' (first | (show ObxE _ _ _ _ _ _ _ _ _ (_ :: _) _ _ _; first | refine ox1 ?_ | (refine ox2 ?_ ?_ <;> intro hp) | fail) | fail))
  refine' obe_upd (pts b2 [.slice none 0 0, .slice none 0 0, .slice none 0 0] 37) (V := fun _ => pts b2 [.slice B1 cl1.length N1, .slice B2 al1.length N2, .slice B3 sl1.length N3] 37) (fun us a w X hk hd hS hL => ?_) ?_
  · (have hk := Kn.vw hk (by repeat (first | exact VW.nil | apply VW.val rfl | apply VW.base rfl rfl | apply VW.res rfl | apply VW.upd rfl | apply VW.cpy rfl | apply VW.dep rfl | apply VW.fn rfl | apply VW.lnd rfl | apply VW.tak rfl)); exact g_store hk hS (fun _ h => h) (hsz := zT rfl))
  refine obe_nil ⟨rfl, ?_⟩; intro us a w hk hS
  simp only [resE, List.cons_append, List.nil_append, Nat.zero_add, Nat.reduceAdd] at hS
  (repeat' (first | (show wpListIn _ _ _ _ _ (_ :: _) _ _; first | (refine wx1 ?_; clear hk a; intro a hk) | (refine wx2 ?_ ?_ <;> (intro hp; clear hk a; intro a hk)) | (refine wx3 ?_; clear hk hS a; intro w b hS a hk) | (refine wx4 ?_; clear hk hS a; intro w hS a hk) | (refine wx5 ?_; clear hk hS a; intro w v hS a hk) | fail) | refine wx0 ?_ | (refine s_end hk ?_; clear hk a; intro a hk) | fail))
  exact done2R hk rfl (.str hS (hT := aT rfl) (hs := zT rfl)) (.str hS (hT := aT rfl) (hs := zT rfl)) (h := ⟨(k1, tag1, key1, text1, ⟨B1, cl1.length, N1⟩, ⟨B2, al1.length, N2⟩, ⟨B3, sl1.length, N3⟩, (e1, lv1, m1', d1, p1, q1), ⟨B4, H1.length, N4⟩), (k0, tag0, key0, text0, ⟨A1, cl0.length, M1⟩, ⟨A2, al0.length, M2⟩, ⟨A3, sl0.length, M3⟩, (e0, lv0, m0, d0, p0, q0), ⟨A4, H0.length, M4⟩), rfl, hS.sub (by (repeat (first | exact Sub.nil | exact Sub.refl | refine Sub.cons (by (repeat (first | exact At.here | apply At.there))) ?_)))⟩)
end Go.Proofs.Ytakejjfmbgbedaa
namespace Go.Proofs.Ytakejjfmbgbedaa
open Go.RowKit
set_option maxRecDepth 100000
attribute [local irreducible] Go.Code.wpIn Go.wpListIn Go.Calls Gives Go.Exit.then Go.Exit.inBlock Done ObxE

end Go.Proofs.Ytakejjfmbgbedaa
namespace Go.Proofs.Ytakejjfmbgbedaa
open Go.RowKit
set_option maxRecDepth 100000
attribute [local irreducible] Go.Code.wpIn Go.wpListIn Go.Calls Gives Go.Exit.then Go.Exit.inBlock Done ObxE

set_option maxHeartbeats 4000000 in
theorem awake20_any (w0 : World) : Calls Try.prog 7 #[] w0 (Ret fun v w => v = .bool true ∧ St w0 [] w) := by
  have hl1 : clnC ([⟨#[111, 110]⟩] ++ clsL 6 0) = [⟨#[111, 110]⟩, ⟨#[116, 45, 108, 101, 97, 118, 101, 45, 97, 99, 116, 105, 118, 101]⟩, ⟨#[116, 45, 108, 101, 97, 118, 101, 45, 116, 111]⟩] := by
    rw [show clsL 6 0 = [⟨#[116, 45, 108, 101, 97, 118, 101, 45, 97, 99, 116, 105, 118, 101]⟩, ⟨#[116, 45, 108, 101, 97, 118, 101, 45, 116, 111]⟩] from rfl]
    simp [clnC, addC]
  have hl2 : snapF nmS ([] ++ ghoP 6) = [(⟨#[116, 45, 103, 104, 111, 115, 116]⟩, ⟨#[]⟩)] := rfl
  refine enter Try.func7 rfl Try.ntmps7 rfl (fun a hk => ?_); have hS := St.refl w0
  (repeat' (first | (show wpListIn _ _ _ _ _ (_ :: _) _ _; first | (refine wx1 ?_; clear hk a; intro a hk) | (refine wx2 ?_ ?_ <;> (intro hp; clear hk a; intro a hk)) | (refine wx3 ?_; clear hk hS a; intro w b hS a hk) | (refine wx4 ?_; clear hk hS a; intro w hS a hk) | (refine wx5 ?_; clear hk hS a; intro w v hS a hk) | fail) | refine wx0 ?_ | (refine s_end hk ?_; clear hk a; intro a hk) | fail))
  rename Value => v5
  obtain ⟨aov5, cv5, hshp, _⟩ := (OwT.rd (hS.rd (A := OwT 9 _ v5) (by (repeat (first | exact At.here | apply At.there))))).shape; subst hshp
  (repeat' (first | (show wpListIn _ _ _ _ _ (_ :: _) _ _; first | (refine wx1 ?_; clear hk a; intro a hk) | (refine wx2 ?_ ?_ <;> (intro hp; clear hk a; intro a hk)) | (refine wx3 ?_; clear hk hS a; intro w b hS a hk) | (refine wx4 ?_; clear hk hS a; intro w hS a hk) | (refine wx5 ?_; clear hk hS a; intro w v hS a hk) | fail) | refine wx0 ?_ | (refine s_end hk ?_; clear hk a; intro a hk) | fail))
  refine sg hk (g_callO hk (hf := by kernel_rfl) (hc := put_any [⟨#[111, 110]⟩] [] [] 6 0 0 0 _ _ _ _ (by first | exact St.rdT hS (by assumption) | exact OwT.rd (hS.rd (A := OwT _ _ _) (by (repeat (first | exact At.here | apply At.there)))) | assumption) (SlT.nil _) (SlT.nil _) (by simp) (by simp) (by simp)) (h := ?_)); clear hk a; rintro vr w ⟨va, vb, vc, rfl, hS1⟩ a hk; replace hS := hS.call hS1; clear hS1
  rw [hl1, hl2] at hS
  simp only [List.cons_append, List.nil_append] at hS
  obtain ⟨aova, cva, hshp, _⟩ := (OwT.rd (hS.rd (A := OwT 9 _ va) (by (repeat (first | exact At.here | apply At.there))))).shape; subst hshp
  obtain ⟨aovb, cvb, hshp, _⟩ := (OwT.rd (hS.rd (A := OwT 61 _ vb) (by (repeat (first | exact At.here | apply At.there))))).shape; subst hshp
  obtain ⟨aovc, cvc, hshp, _⟩ := (OwT.rd (hS.rd (A := OwT 86 _ vc) (by (repeat (first | exact At.here | apply At.there))))).shape; subst hshp
  (repeat' (first | (show wpListIn _ _ _ _ _ (_ :: _) _ _; first | (refine wx1 ?_; clear hk a; intro a hk) | (refine wx2 ?_ ?_ <;> (intro hp; clear hk a; intro a hk)) | (refine wx3 ?_; clear hk hS a; intro w b hS a hk) | (refine wx4 ?_; clear hk hS a; intro w hS a hk) | (refine wx5 ?_; clear hk hS a; intro w v hS a hk) | fail) | refine wx0 ?_ | (refine s_end hk ?_; clear hk a; intro a hk) | fail))
  refine sg hk (g_callO hk (hf := by kernel_rfl) (hc := may_any 6 0 0 0 _) (h := ?_)); clear hk a; rintro _ w ⟨rfl, hS1⟩ a hk; replace hS := hS.call0 hS1; clear hS1
  (repeat' (first | (show wpListIn _ _ _ _ _ (_ :: _) _ _; first | (refine wx1 ?_; clear hk a; intro a hk) | (refine wx2 ?_ ?_ <;> (intro hp; clear hk a; intro a hk)) | (refine wx3 ?_; clear hk hS a; intro w b hS a hk) | (refine wx4 ?_; clear hk hS a; intro w hS a hk) | (refine wx5 ?_; clear hk hS a; intro w v hS a hk) | fail) | refine wx0 ?_ | (refine s_end hk ?_; clear hk a; intro a hk) | fail))
  refine sg hk (g_callO hk (hf := by kernel_rfl) (hc := ghost_any 6 0 0 0 _) (h := ?_)); clear hk a; rintro _ w ⟨rfl, hS1⟩ a hk; replace hS := hS.call0 hS1; clear hS1
  (repeat' (first | (show wpListIn _ _ _ _ _ (_ :: _) _ _; first | (refine wx1 ?_; clear hk a; intro a hk) | (refine wx2 ?_ ?_ <;> (intro hp; clear hk a; intro a hk)) | (refine wx3 ?_; clear hk hS a; intro w b hS a hk) | (refine wx4 ?_; clear hk hS a; intro w hS a hk) | (refine wx5 ?_; clear hk hS a; intro w v hS a hk) | fail) | refine wx0 ?_ | (refine s_end hk ?_; clear hk a; intro a hk) | fail))
  refine sg hk (g_bsT (xs := ([⟨#[111, 110]⟩, ⟨#[116, 45, 108, 101, 97, 118, 101, 45, 97, 99, 116, 105, 118, 101]⟩, ⟨#[116, 45, 108, 101, 97, 118, 101, 45, 116, 111]⟩] : List ByteArray)) (m := 2) hk hS ?_ (hT := eT rfl) (hE := zT rfl) (hz := oT rfl)); clear hk hS a; intro w vw hS a hk
  refine sg hk (g_callO hk (hf := by kernel_rfl) (hc := sameC_any [⟨#[111, 110]⟩, ⟨#[116, 45, 108, 101, 97, 118, 101, 45, 97, 99, 116, 105, 118, 101]⟩, ⟨#[116, 45, 108, 101, 97, 118, 101, 45, 116, 111]⟩] _ _ _ (by first | exact St.rdT hS (by assumption) | exact OwT.rd (hS.rd (A := OwT _ _ _) (by (repeat (first | exact At.here | apply At.there)))) | assumption) (by first | exact St.rdT hS (by assumption) | exact OwT.rd (hS.rd (A := OwT _ _ _) (by (repeat (first | exact At.here | apply At.there)))) | assumption) (by simp)) (h := ?_)); clear hk a; rintro _ w ⟨rfl, hS1⟩ a hk; replace hS := hS.call0 hS1; clear hS1
  (repeat' (first | (show wpListIn _ _ _ _ _ (_ :: _) _ _; first | (refine wx1 ?_; clear hk a; intro a hk) | (refine wx2 ?_ ?_ <;> (intro hp; clear hk a; intro a hk)) | (refine wx3 ?_; clear hk hS a; intro w b hS a hk) | (refine wx4 ?_; clear hk hS a; intro w hS a hk) | (refine wx5 ?_; clear hk hS a; intro w v hS a hk) | fail) | refine wx0 ?_ | (refine s_end hk ?_; clear hk a; intro a hk) | fail))
  exact done1 hk (h := ⟨rfl, hS.nil⟩)

end Go.Proofs.Ytakejjfmbgbedaa
namespace Go.Proofs.Ytakejjfmbgbedaa
open Go.RowKit
set_option maxRecDepth 100000
attribute [local irreducible] Go.Code.wpIn Go.wpListIn Go.Calls Gives Go.Exit.then Go.Exit.inBlock Done ObxE

set_option maxHeartbeats 1000000 in
theorem same03c_any (xs ys : List ByteArray) (vx vy : Value) (w0 : World) (hx : SlT xs vx w0) (hy : SlT ys vy w0) (hl : xs.length ≤ 1000) :
    Calls Try.prog 19 #[vx, vy] w0 (Ret fun v w => v = .bool (decide (xs = ys)) ∧ St w0 [] w) := by
  refine enter Try.func19 rfl Try.ntmps19 rfl (fun a hk => ?_); have hS := St.refl w0
  (repeat' (first | (show wpListIn _ _ _ _ _ (_ :: _) _ _; first | (refine wx1 ?_; clear hk a; intro a hk) | (refine wx2 ?_ ?_ <;> (intro hp; clear hk a; intro a hk)) | (refine wx3 ?_; clear hk hS a; intro w b hS a hk) | (refine wx4 ?_; clear hk hS a; intro w hS a hk) | (refine wx5 ?_; clear hk hS a; intro w v hS a hk) | fail) | refine wx0 ?_ | (refine s_end hk ?_; clear hk a; intro a hk) | fail))
  · replace hk := Kn.kp [0, 1, 12, 13] hk
    refine wp_for xs.length (fun i _ => [(13, .int .i64 (i : Int))]) (fun _ _ => []) (fun i _ => ∀ j, j < i → xs[j]? = ys[j]?) () hk (by repeat (first | exact trivial | refine ⟨rfl, ?_⟩)) hS (fun j hj => by omega) ?_
    clear hk hS a
    rintro i - a w hi hk hS hF
    by_cases hil : i < xs.length
    · (repeat' (first | (show wpListIn _ _ _ _ _ (_ :: _) _ _; first | (refine wx1 ?_; clear hk a; intro a hk) | (refine wx2 ?_ ?_ <;> (intro hp; clear hk a; intro a hk)) | (refine wx3 ?_; clear hk hS a; intro w b hS a hk) | (refine wx4 ?_; clear hk hS a; intro w hS a hk) | (refine wx5 ?_; clear hk hS a; intro w v hS a hk) | fail) | refine wx0 ?_ | (refine s_end hk ?_; clear hk a; intro a hk) | fail))
      refine wp_drawn 8 mixed (by kernel_rfl) hk hS ?_; clear hk hS a
      (repeat' (first | (show ObxE _ _ _ _ _ _ _ _ _ (_ :: _) _ _ _; first | refine ox1 ?_ | (refine ox2 ?_ ?_ <;> intro hp) | fail) | fail))
      refine obe_nil ⟨rfl, ?_⟩; intro us a w hk hS
      (repeat' (first | (show wpListIn _ _ _ _ _ (_ :: _) _ _; first | (refine wx1 ?_; clear hk a; intro a hk) | (refine wx2 ?_ ?_ <;> (intro hp; clear hk a; intro a hk)) | (refine wx3 ?_; clear hk hS a; intro w b hS a hk) | (refine wx4 ?_; clear hk hS a; intro w hS a hk) | (refine wx5 ?_; clear hk hS a; intro w v hS a hk) | fail) | refine wx0 ?_ | (refine s_end hk ?_; clear hk a; intro a hk) | fail))
      · have he : xs[i]'hil = ys[i]'(by omega) := by assumption
        refine ⟨hil, (), hk.sd, hS, fun j hj => ?_⟩
        by_cases e : j = i
        · subst e
          rw [List.getElem?_eq_getElem hil, List.getElem?_eq_getElem (by omega), he]
        · exact hF j (by omega)
      · have he : ¬ xs[i]'hil = ys[i]'(by omega) := by assumption
        refine done1 hk (h := ⟨?_, hS.nil⟩)
        rw [decide_eq_false]
        intro e
        subst e
        exact he rfl
    · (repeat' (first | (show wpListIn _ _ _ _ _ (_ :: _) _ _; first | (refine wx1 ?_; clear hk a; intro a hk) | (refine wx2 ?_ ?_ <;> (intro hp; clear hk a; intro a hk)) | (refine wx3 ?_; clear hk hS a; intro w b hS a hk) | (refine wx4 ?_; clear hk hS a; intro w hS a hk) | (refine wx5 ?_; clear hk hS a; intro w v hS a hk) | fail) | refine wx0 ?_ | (refine s_end hk ?_; clear hk a; intro a hk) | fail))
      refine done1 hk (h := ⟨?_, hS.nil⟩)
      rw [decide_eq_true]
      apply List.ext_getElem?
      intro j
      by_cases hj : j < i
      · exact hF j hj
      · rw [List.getElem?_eq_none (by omega), List.getElem?_eq_none (by omega)]
  · refine done1 hk (h := ⟨?_, hS.nil⟩)
    rw [decide_eq_false]
    intro e
    subst e
    have : ¬ ((xs.length : Nat) : Int) = ((xs.length : Nat) : Int) := by assumption
    exact this rfl

set_option maxHeartbeats 1000000 in
theorem is04_any (xs ys : List PrI) (vx vy : Value) (w0 : World) (hx : SlT xs vx w0) (hy : SlT ys vy w0) (hl : xs.length ≤ 1000) :
    Calls Try.prog 30 #[vx, vy] w0 (Ret fun v w => v = .bool (decide (xs = ys)) ∧ St w0 [] w) := by
  refine enter Try.func30 rfl Try.ntmps30 rfl (fun a hk => ?_); have hS := St.refl w0
  (repeat' (first | (show wpListIn _ _ _ _ _ (_ :: _) _ _; first | (refine wx1 ?_; clear hk a; intro a hk) | (refine wx2 ?_ ?_ <;> (intro hp; clear hk a; intro a hk)) | (refine wx3 ?_; clear hk hS a; intro w b hS a hk) | (refine wx4 ?_; clear hk hS a; intro w hS a hk) | (refine wx5 ?_; clear hk hS a; intro w v hS a hk) | fail) | refine wx0 ?_ | (refine s_end hk ?_; clear hk a; intro a hk) | fail))
  · replace hk := Kn.kp [0, 1, 12, 13] hk
    refine wp_for xs.length (fun i _ => [(13, .int .i64 (i : Int))]) (fun _ _ => []) (fun i _ => ∀ j, j < i → xs[j]? = ys[j]?) () hk (by repeat (first | exact trivial | refine ⟨rfl, ?_⟩)) hS (fun j hj => by omega) ?_
    clear hk hS a
    rintro i - a w hi hk hS hF
    by_cases hil : i < xs.length
    · (repeat' (first | (show wpListIn _ _ _ _ _ (_ :: _) _ _; first | (refine wx1 ?_; clear hk a; intro a hk) | (refine wx2 ?_ ?_ <;> (intro hp; clear hk a; intro a hk)) | (refine wx3 ?_; clear hk hS a; intro w b hS a hk) | (refine wx4 ?_; clear hk hS a; intro w hS a hk) | (refine wx5 ?_; clear hk hS a; intro w v hS a hk) | fail) | refine wx0 ?_ | (refine s_end hk ?_; clear hk a; intro a hk) | fail))
      refine wp_drawn 8 mixed (by kernel_rfl) hk hS ?_; clear hk hS a
      (repeat' (first | (show ObxE _ _ _ _ _ _ _ _ _ (_ :: _) _ _ _; first | refine ox1 ?_ | (refine ox2 ?_ ?_ <;> intro hp) | fail) | fail))
      refine obe_nil ⟨rfl, ?_⟩; intro us a w hk hS
      (repeat' (first | (show wpListIn _ _ _ _ _ (_ :: _) _ _; first | (refine wx1 ?_; clear hk a; intro a hk) | (refine wx2 ?_ ?_ <;> (intro hp; clear hk a; intro a hk)) | (refine wx3 ?_; clear hk hS a; intro w b hS a hk) | (refine wx4 ?_; clear hk hS a; intro w hS a hk) | (refine wx5 ?_; clear hk hS a; intro w v hS a hk) | fail) | refine wx0 ?_ | (refine s_end hk ?_; clear hk a; intro a hk) | fail))
      · have he := eqC_enc (x := xs[i]'hil) (y := ys[i]'(by omega)) (by assumption)
        rw [if_pos rfl] at he
        refine ⟨hil, (), hk.sd, hS, fun j hj => ?_⟩
        by_cases e : j = i
        · subst e
          rw [List.getElem?_eq_getElem hil, List.getElem?_eq_getElem (by omega), he]
        · exact hF j (by omega)
      · have he := eqC_enc (x := xs[i]'hil) (y := ys[i]'(by omega)) (by assumption)
        rw [if_neg (by decide)] at he
        refine done1 hk (h := ⟨?_, hS.nil⟩)
        rw [decide_eq_false]
        intro e
        subst e
        exact he rfl
    · (repeat' (first | (show wpListIn _ _ _ _ _ (_ :: _) _ _; first | (refine wx1 ?_; clear hk a; intro a hk) | (refine wx2 ?_ ?_ <;> (intro hp; clear hk a; intro a hk)) | (refine wx3 ?_; clear hk hS a; intro w b hS a hk) | (refine wx4 ?_; clear hk hS a; intro w hS a hk) | (refine wx5 ?_; clear hk hS a; intro w v hS a hk) | fail) | refine wx0 ?_ | (refine s_end hk ?_; clear hk a; intro a hk) | fail))
      refine done1 hk (h := ⟨?_, hS.nil⟩)
      rw [decide_eq_true]
      apply List.ext_getElem?
      intro j
      by_cases hj : j < i
      · exact hF j hj
      · rw [List.getElem?_eq_none (by omega), List.getElem?_eq_none (by omega)]
  · refine done1 hk (h := ⟨?_, hS.nil⟩)
    rw [decide_eq_false]
    intro e
    subst e
    have : ¬ ((xs.length : Nat) : Int) = ((xs.length : Nat) : Int) := by assumption
    exact this rfl

end Go.Proofs.Ytakejjfmbgbedaa
namespace Go.Proofs.Ytakejjfmbgbedaa
open Go.RowKit
set_option maxRecDepth 100000
attribute [local irreducible] Go.Code.wpIn Go.wpListIn Go.Calls Gives Go.Exit.then Go.Exit.inBlock Done ObxE

abbrev gho : ByteArray := ⟨#[116, 45, 103, 104, 111, 115, 116]⟩

def gStep (s : List PrS × Bool) (x : PrS) : List PrS × Bool :=
  let o := if s.2 = false ∧ Lin.lt x.1 gho = false then s.1 ++ [(gho, ⟨#[]⟩)] else s.1
  let d := s.2 || !Lin.lt x.1 gho
  (if x.1 = gho then o else o ++ [x], d)
def gEnd (s : List PrS × Bool) : List PrS := if s.2 then s.1 else s.1 ++ [(gho, ⟨#[]⟩)]
set_option maxHeartbeats 1000000 in
theorem is20_any (C : List ByteArray) (S : List PrS) (I : List PrI) (a b c a' b' c' : Value) (w0 : World) (h1 : SlT C a w0) (h2 : SlT S b w0) (h3 : SlT I c w0) (h1' : SlT C a' w0) (h2' : SlT S b' w0) (h3' : SlT I c' w0) (l1 : C.length ≤ 1000) (l2 : S.length ≤ 1000) (l3 : I.length ≤ 1000) :
    Calls Try.prog 10 #[.agg #[a, b, c], .agg #[a', b', c']] w0 (Ret fun v w => v = .bool true ∧ St w0 [] w) := by
  obtain ⟨x1, y1, rfl, _⟩ := h1.shape
  obtain ⟨x2, y2, rfl, _⟩ := h2.shape
  obtain ⟨x3, y3, rfl, _⟩ := h3.shape
  obtain ⟨x4, y4, rfl, _⟩ := h1'.shape
  obtain ⟨x5, y5, rfl, _⟩ := h2'.shape
  obtain ⟨x6, y6, rfl, _⟩ := h3'.shape
  refine enter Try.func10 rfl Try.ntmps10 rfl (fun a hk => ?_); have hS := St.refl w0
  (repeat' (first | (show wpListIn _ _ _ _ _ (_ :: _) _ _; first | (refine wx1 ?_; clear hk a; intro a hk) | (refine wx2 ?_ ?_ <;> (intro hp; clear hk a; intro a hk)) | (refine wx3 ?_; clear hk hS a; intro w b hS a hk) | (refine wx4 ?_; clear hk hS a; intro w hS a hk) | (refine wx5 ?_; clear hk hS a; intro w v hS a hk) | fail) | refine wx0 ?_ | (refine s_end hk ?_; clear hk a; intro a hk) | fail))
  rename_i b1
  rename Nat => b2
  replace hk := Kn.kp [2, 3, 15, 16, 17] hk
  refine wp_for S.length (fun i _ => [(17, .int .i64 (i : Int))]) (fun _ _ => [pts b2 [.slice x4 C.length y4, .slice x5 S.length y5, .slice x6 I.length y6] 39, pts b1 [.slice x1 C.length y1, .slice x2 S.length y2, .slice x3 I.length y3] 37]) (fun _ _ => True) () hk (by repeat (first | exact trivial | refine ⟨rfl, ?_⟩)) hS trivial ?_
  clear hk hS a
  rintro i - a w hi hk hS -
  by_cases hil : i < S.length
  · obtain ⟨⟨nm, val⟩, hx⟩ : ∃ x, S[i]? = some x := ⟨_, List.getElem?_eq_getElem hil⟩
    (repeat' (first | (show wpListIn _ _ _ _ _ (_ :: _) _ _; first | (refine wx1 ?_; clear hk a; intro a hk) | (refine wx2 ?_ ?_ <;> (intro hp; clear hk a; intro a hk)) | (refine wx3 ?_; clear hk hS a; intro w b hS a hk) | (refine wx4 ?_; clear hk hS a; intro w hS a hk) | (refine wx5 ?_; clear hk hS a; intro w v hS a hk) | fail) | refine wx0 ?_ | (refine s_end hk ?_; clear hk a; intro a hk) | fail))
    refine wp_drawn 6 mixed (by kernel_rfl) hk hS ?_; clear hk hS a
    (repeat' (first | (show ObxE _ _ _ _ _ _ _ _ _ (_ :: _) _ _ _; first | refine ox1 ?_ | (refine ox2 ?_ ?_ <;> intro hp) | fail) | fail))
    refine obe_nil ⟨rfl, ?_⟩; intro us a w hk hS
    (repeat' (first | (show wpListIn _ _ _ _ _ (_ :: _) _ _; first | (refine wx1 ?_; clear hk a; intro a hk) | (refine wx2 ?_ ?_ <;> (intro hp; clear hk a; intro a hk)) | (refine wx3 ?_; clear hk hS a; intro w b hS a hk) | (refine wx4 ?_; clear hk hS a; intro w hS a hk) | (refine wx5 ?_; clear hk hS a; intro w v hS a hk) | fail) | refine wx0 ?_ | (refine s_end hk ?_; clear hk a; intro a hk) | fail))
    all_goals first | exact ⟨hil, (), hk.sd, hS.sb, trivial⟩ | exact absurd ((eqC_self _).symm.trans (by assumption)) (by decide)
  · have : i = S.length := by omega
    subst this
    (repeat' (first | (show wpListIn _ _ _ _ _ (_ :: _) _ _; first | (refine wx1 ?_; clear hk a; intro a hk) | (refine wx2 ?_ ?_ <;> (intro hp; clear hk a; intro a hk)) | (refine wx3 ?_; clear hk hS a; intro w b hS a hk) | (refine wx4 ?_; clear hk hS a; intro w hS a hk) | (refine wx5 ?_; clear hk hS a; intro w v hS a hk) | fail) | refine wx0 ?_ | (refine s_end hk ?_; clear hk a; intro a hk) | fail))
    refine sg hk (g_callO hk (hf := by kernel_rfl) (hc := same03c_any C C _ _ _ (hS.rdT h1) (hS.rdT h1') l1) (h := ?_)); clear hk a; rintro _ w ⟨rfl, hS1⟩ a hk; replace hS := hS.call0 hS1; clear hS1
    rw [decide_eq_true rfl] at hk
    (repeat' (first | (show wpListIn _ _ _ _ _ (_ :: _) _ _; first | (refine wx1 ?_; clear hk a; intro a hk) | (refine wx2 ?_ ?_ <;> (intro hp; clear hk a; intro a hk)) | (refine wx3 ?_; clear hk hS a; intro w b hS a hk) | (refine wx4 ?_; clear hk hS a; intro w hS a hk) | (refine wx5 ?_; clear hk hS a; intro w v hS a hk) | fail) | refine wx0 ?_ | (refine s_end hk ?_; clear hk a; intro a hk) | fail))
    refine sg hk (g_callO hk (hf := by kernel_rfl) (hc := is04_any I I _ _ _ (hS.rdT h3) (hS.rdT h3') l3) (h := ?_)); clear hk a; rintro _ w ⟨rfl, hS1⟩ a hk; replace hS := hS.call0 hS1; clear hS1
    rw [decide_eq_true rfl] at hk
    (repeat' (first | (show wpListIn _ _ _ _ _ (_ :: _) _ _; first | (refine wx1 ?_; clear hk a; intro a hk) | (refine wx2 ?_ ?_ <;> (intro hp; clear hk a; intro a hk)) | (refine wx3 ?_; clear hk hS a; intro w b hS a hk) | (refine wx4 ?_; clear hk hS a; intro w hS a hk) | (refine wx5 ?_; clear hk hS a; intro w v hS a hk) | fail) | refine wx0 ?_ | (refine s_end hk ?_; clear hk a; intro a hk) | fail))
    exact done1 hk (h := ⟨rfl, hS.nil⟩)

def gF (sl : List PrS) (i : Nat) : List PrS × Bool := (sl.take i).foldl gStep ([], false)
end Go.Proofs.Ytakejjfmbgbedaa
