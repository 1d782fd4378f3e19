/- Layer 9: without what is reserved: the reference. -/
import Derived.Test.YtkcjkbnbblpomaaGreatDoorS30
import Derived.Test.YtkcjkbnbblpomaaGreatDoorS23
set_option linter.all false
namespace Go.Proofs.YtkcjkbnbblpomaaGreatDoor
open Go.RowKit
set_option maxRecDepth 100000
attribute [local irreducible] Go.Code.wpIn Go.wpListIn Go.Calls Gives Go.Exit.then Go.Exit.inBlock Done ObxE

theorem resv_any (s : ByteArray) (w0 : World) : Calls Tryz.prog 58 #[.string s] w0 (Ret fun v w => v = .bool (rsvS s) ∧ St w0 [] w) := by
  refine enter Tryz.func58 rfl Tryz.ntmps58 rfl (fun a hk => ?_); have hS := St.refl w0
  by_cases h : 2 ≤ s.size
  · (repeat' (first | (show wpListIn _ _ _ _ _ (_ :: _) _ _; first | (refine wx1 ?_; clear hk a; intro a hk) | (refine wx2 ?_ ?_ <;> (intro hp; clear hk a; intro a hk)) | (refine wx3 ?_; clear hk hS a; intro w b hS a hk) | (refine wx4 ?_; clear hk hS a; intro w hS a hk) | (refine wx5 ?_; clear hk hS a; intro w v hS a hk) | fail) | refine wx0 ?_ | (refine s_end hk ?_; clear hk a; intro a hk) | fail))
    all_goals first
      | exact done1 hk (h := ⟨by unfold rsvS; rw [decide_eq_true ⟨h, by simpa using (by assumption)⟩], hS.nil⟩)
      | exact done1 hk (h := ⟨by unfold rsvS; rw [decide_eq_false (fun e => absurd e.2 (by simpa using (by assumption)))], hS.nil⟩)
  · (repeat' (first | (show wpListIn _ _ _ _ _ (_ :: _) _ _; first | (refine wx1 ?_; clear hk a; intro a hk) | (refine wx2 ?_ ?_ <;> (intro hp; clear hk a; intro a hk)) | (refine wx3 ?_; clear hk hS a; intro w b hS a hk) | (refine wx4 ?_; clear hk hS a; intro w hS a hk) | (refine wx5 ?_; clear hk hS a; intro w v hS a hk) | fail) | refine wx0 ?_ | (refine s_end hk ?_; clear hk a; intro a hk) | fail))
    exact done1 hk (h := ⟨by unfold rsvS; rw [decide_eq_false (fun e => h e.1)], hS.nil⟩)
set_option maxHeartbeats 1000000 in
theorem mine03_any (l : List ByteArray) (v : Value) (w0 : World) (hv : SlT l v w0) (hl : l.length ≤ 900) : Calls Tryz.prog 57 #[v] w0 (Ret fun v w => St w0 [OwT 9 (mineC l) v] w) := by
  refine enter Tryz.func57 rfl Tryz.ntmps57 rfl (fun a hk => ?_); have hS := St.refl w0
  (repeat' (first | (show wpListIn _ _ _ _ _ (_ :: _) _ _; first | (refine wx1 ?_; clear hk a; intro a hk) | (refine wx2 ?_ ?_ <;> (intro hp; clear hk a; intro a hk)) | (refine wx3 ?_; clear hk hS a; intro w b hS a hk) | (refine wx4 ?_; clear hk hS a; intro w hS a hk) | (refine wx5 ?_; clear hk hS a; intro w v hS a hk) | fail) | refine wx0 ?_ | (refine s_end hk ?_; clear hk a; intro a hk) | fail))
  refine sg hk (g_bs0 ByteArray hS ?_ (hT := eT rfl) (hE := zT rfl)); clear hk hS a; intro w v2 hS a hk
  (repeat' (first | (show wpListIn _ _ _ _ _ (_ :: _) _ _; first | (refine wx1 ?_; clear hk a; intro a hk) | (refine wx2 ?_ ?_ <;> (intro hp; clear hk a; intro a hk)) | (refine wx3 ?_; clear hk hS a; intro w b hS a hk) | (refine wx4 ?_; clear hk hS a; intro w hS a hk) | (refine wx5 ?_; clear hk hS a; intro w v hS a hk) | fail) | refine wx0 ?_ | (refine s_end hk ?_; clear hk a; intro a hk) | fail))
  replace hk := Kn.kp [3, 7, 8, 9] hk
  refine wp_for l.length (fun i v => [(3, v), (9, .int .i64 (i : Int))]) (fun i v => [OwT 9 (mineC (l.take i)) v]) (fun _ _ => True) v2 hk (by repeat (first | exact trivial | refine ⟨rfl, ?_⟩)) hS.sb trivial ?_
  clear hk hS a
  rintro i vo a w hi hk hS -
  by_cases hil : i < l.length
  · obtain ⟨x, hx⟩ : ∃ x, l[i]? = some x := ⟨_, List.getElem?_eq_getElem hil⟩
    have hst : mineC (l.take (i + 1)) = if rsvS x = true then mineC (l.take i) else mineC (l.take i) ++ [x] := by rw [take_snoc hx]; unfold mineC; rw [List.filter_append]; cases h : rsvS x <;> simp [h]
    have htl : (mineC (l.take i)).length ≤ i := Nat.le_trans (List.length_filter_le _ _) (by rw [List.length_take]; omega)
    have hv1 := hS.rdT hv
    by_cases h2 : 2 ≤ x.size
    · (repeat' (first | (show wpListIn _ _ _ _ _ (_ :: _) _ _; first | (refine wx1 ?_; clear hk a; intro a hk) | (refine wx2 ?_ ?_ <;> (intro hp; clear hk a; intro a hk)) | (refine wx3 ?_; clear hk hS a; intro w b hS a hk) | (refine wx4 ?_; clear hk hS a; intro w hS a hk) | (refine wx5 ?_; clear hk hS a; intro w v hS a hk) | fail) | refine wx0 ?_ | (refine s_end hk ?_; clear hk a; intro a hk) | fail))
      · have h3 : x.extract 0 2 = ⟨#[116, 45]⟩ := by assumption
        rw [if_pos (by unfold rsvS; simp [h2, h3])] at hst
        rw [← hst] at hS
        exact ⟨hil, _, hk.sd, hS.sb, trivial⟩
      · have h3 : ¬ x.extract 0 2 = ⟨#[116, 45]⟩ := by first | assumption | (intro e; contradiction)
        rw [if_neg (by unfold rsvS; simp [h3])] at hst
        try rw [← hst] at hS
        exact ⟨hil, _, hk.sd, hS.sb, trivial⟩
    · rw [if_neg (by unfold rsvS; simp [h2])] at hst
      (repeat' (first | (show wpListIn _ _ _ _ _ (_ :: _) _ _; first | (refine wx1 ?_; clear hk a; intro a hk) | (refine wx2 ?_ ?_ <;> (intro hp; clear hk a; intro a hk)) | (refine wx3 ?_; clear hk hS a; intro w b hS a hk) | (refine wx4 ?_; clear hk hS a; intro w hS a hk) | (refine wx5 ?_; clear hk hS a; intro w v hS a hk) | fail) | refine wx0 ?_ | (refine s_end hk ?_; clear hk a; intro a hk) | fail))
      try rw [← hst] at hS
      exact ⟨hil, _, hk.sd, hS.sb, trivial⟩
  · have : i = l.length := by omega
    subst this
    rw [List.take_length] at hS
    (repeat' (first | (show wpListIn _ _ _ _ _ (_ :: _) _ _; first | (refine wx1 ?_; clear hk a; intro a hk) | (refine wx2 ?_ ?_ <;> (intro hp; clear hk a; intro a hk)) | (refine wx3 ?_; clear hk hS a; intro w b hS a hk) | (refine wx4 ?_; clear hk hS a; intro w hS a hk) | (refine wx5 ?_; clear hk hS a; intro w v hS a hk) | fail) | refine wx0 ?_ | (refine s_end hk ?_; clear hk a; intro a hk) | fail))
    exact done1 hk (h := hS.sb)
set_option maxHeartbeats 1000000 in
theorem ghost9_any (t : STree) (h : SnH) (w0 : World) (hf : SFits t) (hr : SrR w0 t h) : Calls Tryz.prog 26 #[snV h] w0 (Ret fun v w => v = .bool t.ghost ∧ St w0 [] w) := by
  obtain ⟨id, k, tag, text, cl, al, sl, kids, a1, m1, a2, m2, a3, m3, a4, m4, H, rfl, rfl, c1, c2, c3, c4, hF⟩ := hr.split
  obtain ⟨l1, l2, l3, l4, l5⟩ := hf
  show Calls Tryz.prog 26 #[.agg #[.int .i64 id, .int .i64 k, .string tag, .string text, .slice a1 cl.length m1, .slice a2 al.length m2, .slice a3 sl.length m3, .slice a4 H.length m4]] w0 _
  show Calls _ _ _ _ (Ret fun v w => v = .bool (ghB al) ∧ St w0 [] w)
  refine enter Tryz.func26 rfl Tryz.ntmps26 rfl (fun a hk => ?_); have hS := St.refl w0
  (repeat' (first | (show wpListIn _ _ _ _ _ (_ :: _) _ _; first | (refine wx1 ?_; clear hk a; intro a hk) | (refine wx2 ?_ ?_ <;> (intro hp; clear hk a; intro a hk)) | (refine wx3 ?_; clear hk hS a; intro w b hS a hk) | (refine wx4 ?_; clear hk hS a; intro w hS a hk) | (refine wx5 ?_; clear hk hS a; intro w v hS a hk) | fail) | refine wx0 ?_ | (refine s_end hk ?_; clear hk a; intro a hk) | fail))
  replace hk := Kn.kp [6, 7, 8] hk
  refine wp_for al.length (fun i _ => [(8, .int .i64 (i : Int))]) (fun _ _ => []) (fun i _ => ∀ (j : Nat) (x : PrS), j < i → al[j]? = some x → x.1 ≠ ghS) () hk (by repeat (first | exact trivial | refine ⟨rfl, ?_⟩)) hS.sb (fun j x hj => by omega) ?_
  clear hk hS a
  rintro i - a w hi hk hS hA
  by_cases hil : i < al.length
  · obtain ⟨⟨nm, val⟩, hx⟩ : ∃ x, al[i]? = some x := ⟨_, List.getElem?_eq_getElem hil⟩
    have hv1 := hS.rdT c2
    (repeat' (first | (show wpListIn _ _ _ _ _ (_ :: _) _ _; first | (refine wx1 ?_; clear hk a; intro a hk) | (refine wx2 ?_ ?_ <;> (intro hp; clear hk a; intro a hk)) | (refine wx3 ?_; clear hk hS a; intro w b hS a hk) | (refine wx4 ?_; clear hk hS a; intro w hS a hk) | (refine wx5 ?_; clear hk hS a; intro w v hS a hk) | fail) | refine wx0 ?_ | (refine s_end hk ?_; clear hk a; intro a hk) | fail))
    · have he : nm = ghS := by assumption
      refine done1 hk (h := ⟨?_, hS.nil⟩)
      unfold ghB
      rw [List.any_eq_true.2 ⟨(nm, val), List.mem_of_getElem? hx, by simp [he]⟩]
    · have he : ¬ nm = ghS := by assumption
      refine ⟨hil, (), hk.sd, hS.sb, fun j x hj hjx => ?_⟩
      by_cases e : j = i
      · subst e
        rw [hx] at hjx
        cases hjx
        exact he
      · exact hA j x (by omega) hjx
  · have : i = al.length := by omega
    subst this
    (repeat' (first | (show wpListIn _ _ _ _ _ (_ :: _) _ _; first | (refine wx1 ?_; clear hk a; intro a hk) | (refine wx2 ?_ ?_ <;> (intro hp; clear hk a; intro a hk)) | (refine wx3 ?_; clear hk hS a; intro w b hS a hk) | (refine wx4 ?_; clear hk hS a; intro w hS a hk) | (refine wx5 ?_; clear hk hS a; intro w v hS a hk) | fail) | refine wx0 ?_ | (refine s_end hk ?_; clear hk a; intro a hk) | fail))
    refine done1 hk (h := ⟨?_, hS.nil⟩)
    unfold ghB
    rw [List.any_eq_false.2 fun x hx => ?_]
    obtain ⟨j, hj, e⟩ := List.mem_iff_getElem.1 hx
    have := hA j x hj (by rw [List.getElem?_eq_getElem hj, e])
    simpa using this
def ownS (l : List PrS) : List PrS := l.filter (fun x => !rsvS x.1)
def ownI (l : List PrI) : List PrI := l.filter (fun x => !rsvS x.1)
set_option maxHeartbeats 4000000 in
theorem rerase9_any : ∀ (n : Nat) (t : STree) (h : SnH) (w0 : World), SizeOf.sizeOf t < n → SFits t → SRis t → SrR w0 t h →
    Calls Tryz.prog 27 #[snV h] w0 (Ret fun v w => St w0 [streeH (erT t) v] w)
  | 0, _, _, _, hn, _, _, _ => by omega
  | n + 1, t, h, w0, hn, hf, hs, hr => by
    have ih := rerase9_any n
    have hsf := hf
    obtain ⟨id, k, tag, text, cl, al, sl, kids, a1, m1, a2, m2, a3, m3, a4, m4, H, rfl, rfl, c1, c2, c3, c4, hF⟩ := hr.split
    obtain ⟨l1, l2, l3, l4, l5⟩ := hf
    have hHk : H.length = kids.length := hF.1
    obtain ⟨s1, s2, s3⟩ := hs
    have es : mineS al = ownS al := by unfold mineS; rw [s1]; rfl
    have ei : mineI sl = ownI sl := by unfold mineI; rw [s2]; rfl
    rw [erT, es, ei]
    show Calls Tryz.prog 27 #[.agg #[.int .i64 id, .int .i64 k, .string tag, .string text, .slice a1 cl.length m1, .slice a2 al.length m2, .slice a3 sl.length m3, .slice a4 H.length m4]] w0 _
    refine enter Tryz.func27 rfl Tryz.ntmps27 rfl (fun a hk => ?_); have hS := St.refl w0
    (repeat' (first | (show wpListIn _ _ _ _ _ (_ :: _) _ _; first | (refine wx1 ?_; clear hk a; intro a hk) | (refine wx2 ?_ ?_ <;> (intro hp; clear hk a; intro a hk)) | (refine wx3 ?_; clear hk hS a; intro w b hS a hk) | (refine wx4 ?_; clear hk hS a; intro w hS a hk) | (refine wx5 ?_; clear hk hS a; intro w v hS a hk) | fail) | refine wx0 ?_ | (refine s_end hk ?_; clear hk a; intro a hk) | fail))
    rename_i b1
    rename Nat => b2
    refine wp_drawn 13 mixed (by kernel_rfl) hk hS ?_; clear hk hS a
    (repeat' (first | (show ObxE _ _ _ _ _ _ _ _ _ (_ :: _) _ _ _; first | refine ox1 ?_ | (refine ox2 ?_ ?_ <;> intro hp) | fail) | fail))
    refine' obe_res (fun us a w hk hd hS => ?_) ?_; rotate_left; focus (have hk := Kn.vw hk (by repeat (first | exact VW.nil | apply VW.val rfl | apply VW.base rfl rfl | apply VW.res rfl | apply VW.upd rfl | apply VW.cpy rfl | apply VW.dep rfl | apply VW.fn rfl | apply VW.lnd rfl | apply VW.tak rfl)); exact g_callO hk (hf := by kernel_rfl) (hc := mine03_any cl _ _ (hS.rdT c1) (by omega)) (h := fun _ _ h => h))
    refine' obe_fn [10] (fun l => .agg #[.int .i64 id, .int .i64 k, .string tag, .string text, l.getD 0 undef, .slice none 0 0, .slice none 0 0, .slice none 0 0]) (fun us a w hk hd hS => ?_) ?_ (by intro k e; simp only [List.mem_cons, List.not_mem_nil, or_false] at e; rcases e with rfl; exact ⟨20, _, rfl, rfl⟩)
    · have hk := Kn.vw hk (by repeat (first | exact VW.nil | apply VW.val rfl | apply VW.base rfl rfl | apply VW.res rfl | apply VW.upd rfl | apply VW.cpy rfl | apply VW.dep rfl | apply VW.fn rfl | apply VW.lnd rfl | apply VW.tak rfl))
      have h1 : (OwT 9 (mineC cl) (us 10)).rd w := hd.2.2.2.2.1
      obtain ⟨_, _, e1, _⟩ := (OwT.rd h1).shape
      simp only [Nat.zero_add, Nat.reduceAdd] at hk
      simp only [List.map, List.getD_cons_zero]
      rw [e1] at hk ⊢
      exact g_build hk ⟨rfl, St.refl w⟩ (fsT rfl) (oT rfl)
    refine' obe_res (fun us a w hk hd hS => ?_) ?_; rotate_left; focus (have hk := Kn.vw hk (by repeat (first | exact VW.nil | apply VW.val rfl | apply VW.base rfl rfl | apply VW.res rfl | apply VW.upd rfl | apply VW.cpy rfl | apply VW.dep rfl | apply VW.fn rfl | apply VW.lnd rfl | apply VW.tak rfl)); exact v_alloc hk (oT rfl))
    refine obe_nil ⟨rfl, ?_⟩; intro us a w hk hS
    simp only [resE, List.cons_append, List.nil_append, Nat.zero_add, Nat.reduceAdd] at hS
    obtain ⟨b3, hb3, hS1⟩ := hS.ptv (by (repeat (first | exact At.here | apply At.there))); replace hS := hS1; clear hS1
    replace hk := Kn.kp [1, 2, 3, 21] hk
    simp only [HV.of, List.map, List.getD_cons_zero, Nat.zero_add, Nat.reduceAdd] at hk
    generalize us 10 = v20 at hS hk
    rw [hb3] at hk
    obtain ⟨aov20, cv20, hshp, _⟩ := (OwT.rd (hS.rd (A := OwT 9 _ v20) (by (repeat (first | exact At.here | apply At.there))))).shape; subst hshp
    have c2' := hS.rdT c2
    (repeat' (first | (show wpListIn _ _ _ _ _ (_ :: _) _ _; first | (refine wx1 ?_; clear hk a; intro a hk) | (refine wx2 ?_ ?_ <;> (intro hp; clear hk a; intro a hk)) | (refine wx3 ?_; clear hk hS a; intro w b hS a hk) | (refine wx4 ?_; clear hk hS a; intro w hS a hk) | (refine wx5 ?_; clear hk hS a; intro w v hS a hk) | fail) | refine wx0 ?_ | (refine s_end hk ?_; clear hk a; intro a hk) | fail))
    replace hS := hS.nilT 97 PrS
    replace hk := Kn.kp [1, 2, 3, 23, 24, 25] hk
    refine wp_for al.length (fun i _ => [(25, .int .i64 (i : Int))]) (fun i v => [OwT 97 (ownS (al.take i)) (.slice v.1 (ownS (al.take i)).length v.2), pts b3 [.int .i64 id, .int .i64 k, .string tag, .string text, .slice aov20 (mineC cl).length cv20, .slice v.1 (ownS (al.take i)).length v.2, .slice none 0 0, .slice none 0 0] 48, OwT 9 (mineC cl) (.slice aov20 (mineC cl).length cv20), pts b2 [.int .i64 0, .int .i64 0, .string ⟨#[]⟩, .string ⟨#[]⟩, .slice none 0 0, .slice none 0 0, .slice none 0 0, .slice none 0 0] 48, pts b1 [.int .i64 id, .int .i64 k, .string tag, .string text, .slice a1 cl.length m1, .slice a2 al.length m2, .slice a3 sl.length m3, .slice a4 H.length m4] 48]) (fun _ _ => True) ((none, 0) : Option Addr × Nat) hk (by repeat (first | exact trivial | refine ⟨rfl, ?_⟩)) (hS.sub (by (repeat (first | exact Sub.nil | exact Sub.refl | refine Sub.cons (by (repeat (first | exact At.here | apply At.there))) ?_)))) trivial ?_
    clear hk hS a
    rintro i ⟨ao, c⟩ a w hi hk hS -
    by_cases hil : i < al.length
    · obtain ⟨⟨nm, val⟩, hx⟩ : ∃ x, al[i]? = some x := ⟨_, List.getElem?_eq_getElem hil⟩
      have hst : ownS (al.take (i + 1)) = if rsvS nm = true then ownS (al.take i) else ownS (al.take i) ++ [(nm, val)] := by rw [take_snoc hx]; unfold ownS; rw [List.filter_append]; cases h : rsvS nm <;> simp [h]
      have htl : (ownS (al.take i)).length ≤ i := Nat.le_trans (List.length_filter_le _ _) (by rw [List.length_take]; omega)
      have hv1 := hS.rdT c2
      simp only at hS hk
      (repeat' (first | (show wpListIn _ _ _ _ _ (_ :: _) _ _; first | (refine wx1 ?_; clear hk a; intro a hk) | (refine wx2 ?_ ?_ <;> (intro hp; clear hk a; intro a hk)) | (refine wx3 ?_; clear hk hS a; intro w b hS a hk) | (refine wx4 ?_; clear hk hS a; intro w hS a hk) | (refine wx5 ?_; clear hk hS a; intro w v hS a hk) | fail) | refine wx0 ?_ | (refine s_end hk ?_; clear hk a; intro a hk) | fail))
      refine sg hk (g_callO hk (hf := by kernel_rfl) (hc := resv_any nm _) (h := ?_)); clear hk a; rintro _ w ⟨rfl, hS1⟩ a hk; replace hS := hS.call0 hS1; clear hS1
      generalize hrv : rsvS nm = rv at *
      cases rv with
      | true =>
        rw [if_pos rfl] at hst
        rw [← hst] at hS
        (repeat' (first | (show wpListIn _ _ _ _ _ (_ :: _) _ _; first | (refine wx1 ?_; clear hk a; intro a hk) | (refine wx2 ?_ ?_ <;> (intro hp; clear hk a; intro a hk)) | (refine wx3 ?_; clear hk hS a; intro w b hS a hk) | (refine wx4 ?_; clear hk hS a; intro w hS a hk) | (refine wx5 ?_; clear hk hS a; intro w v hS a hk) | fail) | refine wx0 ?_ | (refine s_end hk ?_; clear hk a; intro a hk) | fail))
        exact ⟨hil, (ao, c), hk.sd, hS.sub (by (repeat (first | exact Sub.nil | exact Sub.refl | refine Sub.cons (by (repeat (first | exact At.here | apply At.there))) ?_))), trivial⟩
      | false =>
        rw [if_neg (by decide)] at hst
        (repeat' (first | (show wpListIn _ _ _ _ _ (_ :: _) _ _; first | (refine wx1 ?_; clear hk a; intro a hk) | (refine wx2 ?_ ?_ <;> (intro hp; clear hk a; intro a hk)) | (refine wx3 ?_; clear hk hS a; intro w b hS a hk) | (refine wx4 ?_; clear hk hS a; intro w hS a hk) | (refine wx5 ?_; clear hk hS a; intro w v hS a hk) | fail) | refine wx0 ?_ | (refine s_end hk ?_; clear hk a; intro a hk) | fail))
        refine sg hk (g_bsT (xs := [((nm, val) : PrS)]) (m := 0) hk hS ?_ (hT := eT rfl) (hE := zT rfl) (hz := oT rfl)); clear hk hS a; intro w ve hS a hk
        (repeat' (first | (show wpListIn _ _ _ _ _ (_ :: _) _ _; first | (refine wx1 ?_; clear hk a; intro a hk) | (refine wx2 ?_ ?_ <;> (intro hp; clear hk a; intro a hk)) | (refine wx3 ?_; clear hk hS a; intro w b hS a hk) | (refine wx4 ?_; clear hk hS a; intro w hS a hk) | (refine wx5 ?_; clear hk hS a; intro w v hS a hk) | fail) | refine wx0 ?_ | (refine s_end hk ?_; clear hk a; intro a hk) | fail))
        rw [← hst] at hS
        rename Value => vn
        obtain ⟨aovn, cvn, hshp, _⟩ := (OwT.rd (hS.rd (A := OwT 97 _ vn) (by (repeat (first | exact At.here | apply At.there))))).shape; subst hshp
        (repeat' (first | (show wpListIn _ _ _ _ _ (_ :: _) _ _; first | (refine wx1 ?_; clear hk a; intro a hk) | (refine wx2 ?_ ?_ <;> (intro hp; clear hk a; intro a hk)) | (refine wx3 ?_; clear hk hS a; intro w b hS a hk) | (refine wx4 ?_; clear hk hS a; intro w hS a hk) | (refine wx5 ?_; clear hk hS a; intro w v hS a hk) | fail) | refine wx0 ?_ | (refine s_end hk ?_; clear hk a; intro a hk) | fail))
        exact ⟨hil, (aovn, cvn), hk.sd, hS.sub (by (repeat (first | exact Sub.nil | exact Sub.refl | refine Sub.cons (by (repeat (first | exact At.here | apply At.there))) ?_))), trivial⟩
    · have : i = al.length := by omega
      subst this
      rw [List.take_length] at hS
      simp only at hS hk
      have c3' := hS.rdT c3
      (repeat' (first | (show wpListIn _ _ _ _ _ (_ :: _) _ _; first | (refine wx1 ?_; clear hk a; intro a hk) | (refine wx2 ?_ ?_ <;> (intro hp; clear hk a; intro a hk)) | (refine wx3 ?_; clear hk hS a; intro w b hS a hk) | (refine wx4 ?_; clear hk hS a; intro w hS a hk) | (refine wx5 ?_; clear hk hS a; intro w v hS a hk) | fail) | refine wx0 ?_ | (refine s_end hk ?_; clear hk a; intro a hk) | fail))
      replace hS := hS.nilT 105 PrI
      replace hk := Kn.kp [1, 2, 3, 41, 42, 43] hk
      refine wp_for sl.length (fun i _ => [(43, .int .i64 (i : Int))]) (fun i v => [OwT 105 (ownI (sl.take i)) (.slice v.1 (ownI (sl.take i)).length v.2), pts b3 [.int .i64 id, .int .i64 k, .string tag, .string text, .slice aov20 (mineC cl).length cv20, .slice ao (ownS al).length c, .slice v.1 (ownI (sl.take i)).length v.2, .slice none 0 0] 48, OwT 97 (ownS al) (.slice ao (ownS al).length c), OwT 9 (mineC cl) (.slice aov20 (mineC cl).length cv20), pts b2 [.int .i64 0, .int .i64 0, .string ⟨#[]⟩, .string ⟨#[]⟩, .slice none 0 0, .slice none 0 0, .slice none 0 0, .slice none 0 0] 48, pts b1 [.int .i64 id, .int .i64 k, .string tag, .string text, .slice a1 cl.length m1, .slice a2 al.length m2, .slice a3 sl.length m3, .slice a4 H.length m4] 48]) (fun _ _ => True) ((none, 0) : Option Addr × Nat) hk (by repeat (first | exact trivial | refine ⟨rfl, ?_⟩)) (hS.sub (by (repeat (first | exact Sub.nil | exact Sub.refl | refine Sub.cons (by (repeat (first | exact At.here | apply At.there))) ?_)))) trivial ?_
      clear hk hS a
      rintro i ⟨bo, f⟩ a w hi hk hS -
      by_cases hil : i < sl.length
      · obtain ⟨⟨nm, val⟩, hx⟩ : ∃ x, sl[i]? = some x := ⟨_, List.getElem?_eq_getElem hil⟩
        have hst : ownI (sl.take (i + 1)) = if rsvS nm = true then ownI (sl.take i) else ownI (sl.take i) ++ [(nm, val)] := by rw [take_snoc hx]; unfold ownI; rw [List.filter_append]; cases h : rsvS nm <;> simp [h]
        have htl : (ownI (sl.take i)).length ≤ i := Nat.le_trans (List.length_filter_le _ _) (by rw [List.length_take]; omega)
        have hv1 := hS.rdT c3
        simp only at hS hk
        (repeat' (first | (show wpListIn _ _ _ _ _ (_ :: _) _ _; first | (refine wx1 ?_; clear hk a; intro a hk) | (refine wx2 ?_ ?_ <;> (intro hp; clear hk a; intro a hk)) | (refine wx3 ?_; clear hk hS a; intro w b hS a hk) | (refine wx4 ?_; clear hk hS a; intro w hS a hk) | (refine wx5 ?_; clear hk hS a; intro w v hS a hk) | fail) | refine wx0 ?_ | (refine s_end hk ?_; clear hk a; intro a hk) | fail))
        refine sg hk (g_callO hk (hf := by kernel_rfl) (hc := resv_any nm _) (h := ?_)); clear hk a; rintro _ w ⟨rfl, hS1⟩ a hk; replace hS := hS.call0 hS1; clear hS1
        generalize hrv : rsvS nm = rv at *
        cases rv with
        | true =>
          rw [if_pos rfl] at hst
          rw [← hst] at hS
          (repeat' (first | (show wpListIn _ _ _ _ _ (_ :: _) _ _; first | (refine wx1 ?_; clear hk a; intro a hk) | (refine wx2 ?_ ?_ <;> (intro hp; clear hk a; intro a hk)) | (refine wx3 ?_; clear hk hS a; intro w b hS a hk) | (refine wx4 ?_; clear hk hS a; intro w hS a hk) | (refine wx5 ?_; clear hk hS a; intro w v hS a hk) | fail) | refine wx0 ?_ | (refine s_end hk ?_; clear hk a; intro a hk) | fail))
          exact ⟨hil, (bo, f), hk.sd, hS.sub (by (repeat (first | exact Sub.nil | exact Sub.refl | refine Sub.cons (by (repeat (first | exact At.here | apply At.there))) ?_))), trivial⟩
        | false =>
          rw [if_neg (by decide)] at hst
          (repeat' (first | (show wpListIn _ _ _ _ _ (_ :: _) _ _; first | (refine wx1 ?_; clear hk a; intro a hk) | (refine wx2 ?_ ?_ <;> (intro hp; clear hk a; intro a hk)) | (refine wx3 ?_; clear hk hS a; intro w b hS a hk) | (refine wx4 ?_; clear hk hS a; intro w hS a hk) | (refine wx5 ?_; clear hk hS a; intro w v hS a hk) | fail) | refine wx0 ?_ | (refine s_end hk ?_; clear hk a; intro a hk) | fail))
          refine sg hk (g_bsT (xs := [((nm, val) : PrI)]) (m := 0) hk hS ?_ (hT := eT rfl) (hE := zT rfl) (hz := oT rfl)); clear hk hS a; intro w ve hS a hk
          (repeat' (first | (show wpListIn _ _ _ _ _ (_ :: _) _ _; first | (refine wx1 ?_; clear hk a; intro a hk) | (refine wx2 ?_ ?_ <;> (intro hp; clear hk a; intro a hk)) | (refine wx3 ?_; clear hk hS a; intro w b hS a hk) | (refine wx4 ?_; clear hk hS a; intro w hS a hk) | (refine wx5 ?_; clear hk hS a; intro w v hS a hk) | fail) | refine wx0 ?_ | (refine s_end hk ?_; clear hk a; intro a hk) | fail))
          rw [← hst] at hS
          rename Value => vn
          obtain ⟨aovn, cvn, hshp, _⟩ := (OwT.rd (hS.rd (A := OwT 105 _ vn) (by (repeat (first | exact At.here | apply At.there))))).shape; subst hshp
          (repeat' (first | (show wpListIn _ _ _ _ _ (_ :: _) _ _; first | (refine wx1 ?_; clear hk a; intro a hk) | (refine wx2 ?_ ?_ <;> (intro hp; clear hk a; intro a hk)) | (refine wx3 ?_; clear hk hS a; intro w b hS a hk) | (refine wx4 ?_; clear hk hS a; intro w hS a hk) | (refine wx5 ?_; clear hk hS a; intro w v hS a hk) | fail) | refine wx0 ?_ | (refine s_end hk ?_; clear hk a; intro a hk) | fail))
          exact ⟨hil, (aovn, cvn), hk.sd, hS.sub (by (repeat (first | exact Sub.nil | exact Sub.refl | refine Sub.cons (by (repeat (first | exact At.here | apply At.there))) ?_))), trivial⟩
      · have : i = sl.length := by omega
        subst this
        rw [List.take_length] at hS
        simp only at hS hk
        have c4' := hS.rdT c4
        (repeat' (first | (show wpListIn _ _ _ _ _ (_ :: _) _ _; first | (refine wx1 ?_; clear hk a; intro a hk) | (refine wx2 ?_ ?_ <;> (intro hp; clear hk a; intro a hk)) | (refine wx3 ?_; clear hk hS a; intro w b hS a hk) | (refine wx4 ?_; clear hk hS a; intro w hS a hk) | (refine wx5 ?_; clear hk hS a; intro w v hS a hk) | fail) | refine wx0 ?_ | (refine s_end hk ?_; clear hk a; intro a hk) | fail))
        replace hS := sforR.nil (hS.nilT 48 SnH)
        replace hk := Kn.kp [2, 3, 59, 60, 61] hk
        refine wp_for H.length (fun i _ => [(61, .int .i64 (i : Int))]) (fun i v => [sforR (erL (kids.take i)) (v.2 : List SnH), OwT 48 v.2 (.slice v.1.1 v.2.length v.1.2), pts b3 [.int .i64 id, .int .i64 k, .string tag, .string text, .slice aov20 (mineC cl).length cv20, .slice ao (ownS al).length c, .slice bo (ownI sl).length f, .slice v.1.1 v.2.length v.1.2] 48, OwT 105 (ownI sl) (.slice bo (ownI sl).length f), OwT 97 (ownS al) (.slice ao (ownS al).length c), OwT 9 (mineC cl) (.slice aov20 (mineC cl).length cv20), pts b2 [.int .i64 0, .int .i64 0, .string ⟨#[]⟩, .string ⟨#[]⟩, .slice none 0 0, .slice none 0 0, .slice none 0 0, .slice none 0 0] 48]) (fun _ _ => True) (((none, 0), []) : (Option Addr × Nat) × List SnH) hk (by repeat (first | exact trivial | refine ⟨rfl, ?_⟩)) (hS.sub (by (repeat (first | exact Sub.nil | exact Sub.refl | refine Sub.cons (by (repeat (first | exact At.here | apply At.there))) ?_)))) trivial ?_
        clear hk hS a
        rintro j ⟨⟨ak, ck⟩, H'⟩ a w hj hk hS -
        have hFH := hS.soR .here
        have hkl := erL_len (kids.take j)
        rw [List.length_take] at hkl
        have hHl : H'.length = (erL (kids.take j)).length := hFH.1
        by_cases hjl : j < H.length
        · obtain ⟨tk, htk⟩ : ∃ t, kids[j]? = some t := ⟨_, List.getElem?_eq_getElem (by rw [← hF.1]; exact hjl)⟩
          obtain ⟨hd0, hx⟩ : ∃ x, H[j]? = some x := ⟨_, List.getElem?_eq_getElem hjl⟩
          have hTr := hF.2 j tk hd0 htk hx
          have hmk := List.mem_of_getElem? htk
          have hfk := l5 tk hmk
          have hsk := s3 tk hmk
          have hlt : SizeOf.sizeOf tk < n := by have := skid_lt (id := id) (k := k) (tag := tag) (text := text) (cl := cl) (at_ := al) (st := sl) hmk; omega
          have hst : erL (kids.take (j + 1)) = if tk.ghost = true then erL (kids.take j) else erL (kids.take j) ++ [erT tk] := by rw [take_snoc htk, erL_snoc]
          have c4'' := hS.rdT c4
          simp only at hS hk
          obtain ⟨id', k', tag', text', ⟨x1, x2, x3⟩, ⟨y1, y2, y3⟩, ⟨z1, z2, z3⟩, ⟨u1, u2, u3⟩⟩ := hd0
          (repeat' (first | (show wpListIn _ _ _ _ _ (_ :: _) _ _; first | (refine wx1 ?_; clear hk a; intro a hk) | (refine wx2 ?_ ?_ <;> (intro hp; clear hk a; intro a hk)) | (refine wx3 ?_; clear hk hS a; intro w b hS a hk) | (refine wx4 ?_; clear hk hS a; intro w hS a hk) | (refine wx5 ?_; clear hk hS a; intro w v hS a hk) | fail) | refine wx0 ?_ | (refine s_end hk ?_; clear hk a; intro a hk) | fail))
          refine sg hk (g_callO hk (hf := by kernel_rfl) (hc := ghost9_any tk (id', k', tag', text', ⟨x1, x2, x3⟩, ⟨y1, y2, y3⟩, ⟨z1, z2, z3⟩, ⟨u1, u2, u3⟩) _ hfk (hS.rdSr hTr)) (h := ?_)); clear hk a; rintro _ w ⟨rfl, hS1⟩ a hk; replace hS := hS.call0 hS1; clear hS1
          generalize hgk : tk.ghost = gk at *
          cases gk with
          | true =>
            rw [if_pos rfl] at hst
            rw [← hst] at hS
            (repeat' (first | (show wpListIn _ _ _ _ _ (_ :: _) _ _; first | (refine wx1 ?_; clear hk a; intro a hk) | (refine wx2 ?_ ?_ <;> (intro hp; clear hk a; intro a hk)) | (refine wx3 ?_; clear hk hS a; intro w b hS a hk) | (refine wx4 ?_; clear hk hS a; intro w hS a hk) | (refine wx5 ?_; clear hk hS a; intro w v hS a hk) | fail) | refine wx0 ?_ | (refine s_end hk ?_; clear hk a; intro a hk) | fail))
            exact ⟨hjl, ((ak, ck), H'), hk.sd, hS.sub (by (repeat (first | exact Sub.nil | exact Sub.refl | refine Sub.cons (by (repeat (first | exact At.here | apply At.there))) ?_))), trivial⟩
          | false =>
            rw [if_neg (by decide)] at hst
            (repeat' (first | (show wpListIn _ _ _ _ _ (_ :: _) _ _; first | (refine wx1 ?_; clear hk a; intro a hk) | (refine wx2 ?_ ?_ <;> (intro hp; clear hk a; intro a hk)) | (refine wx3 ?_; clear hk hS a; intro w b hS a hk) | (refine wx4 ?_; clear hk hS a; intro w hS a hk) | (refine wx5 ?_; clear hk hS a; intro w v hS a hk) | fail) | refine wx0 ?_ | (refine s_end hk ?_; clear hk a; intro a hk) | fail))
            refine wp_drawn 5 mixed (by kernel_rfl) hk hS ?_; clear hk hS a
            (repeat' (first | (show ObxE _ _ _ _ _ _ _ _ _ (_ :: _) _ _ _; first | refine ox1 ?_ | (refine ox2 ?_ ?_ <;> intro hp) | fail) | fail))
            refine' obe_res (fun us a w hk hd hS => ?_) ?_; rotate_left; focus (have hk := Kn.vw hk (by repeat (first | exact VW.nil | apply VW.val rfl | apply VW.base rfl rfl | apply VW.res rfl | apply VW.upd rfl | apply VW.cpy rfl | apply VW.dep rfl | apply VW.fn rfl | apply VW.lnd rfl | apply VW.tak rfl)); exact g_callO hk (hf := by kernel_rfl) (hc := ih tk (id', k', tag', text', ⟨x1, x2, x3⟩, ⟨y1, y2, y3⟩, ⟨z1, z2, z3⟩, ⟨u1, u2, u3⟩) _ hlt hfk hsk (hS.rdSr hTr)) (h := fun _ _ h => h))
            refine' obe_dep 71 3 (V := fun u v => OwT 48 [snOf u] v) (fun us a w hk hd hS => ?_) ?_
            · have hk := Kn.vw hk (by repeat (first | exact VW.nil | apply VW.val rfl | apply VW.base rfl rfl | apply VW.res rfl | apply VW.upd rfl | apply VW.cpy rfl | apply VW.dep rfl | apply VW.fn rfl | apply VW.lnd rfl | apply VW.tak rfl))
              have hG : (streeH (erT tk) (us 3)).rd w := hd.1
              obtain ⟨⟨id2, k2, tag2, text2, ⟨x12, x22, x32⟩, ⟨y12, y22, y32⟩, ⟨z12, z22, z32⟩, ⟨u12, u22, u32⟩⟩, he, _⟩ := streeH.rd hG
              show Gives _ _ _ _ (fun v w' => St w [OwT 48 [snOf (us 3)] v] w')
              simp only [Nat.zero_add, Nat.reduceAdd] at hk
              rw [he] at hk ⊢
              rw [snOf_snV]
              exact v_bsT (xs := [((id2, k2, tag2, text2, ⟨x12, x22, x32⟩, ⟨y12, y22, y32⟩, ⟨z12, z22, z32⟩, ⟨u12, u22, u32⟩) : SnH)]) (m := 0) hk (hT := eT rfl) (hE := zT rfl) (hz := oT rfl)
            refine obe_nil ⟨rfl, ?_⟩; intro us a w hk hS
            simp only [resE, List.cons_append, List.nil_append, Nat.zero_add, Nat.reduceAdd] at hS
            replace hk := Kn.kp [2, 3, 59, 60, 61, 69, 71, 72] hk
            simp only [HV.of, Nat.zero_add, Nat.reduceAdd] at hk
            generalize us 3 = v71 at hS hk
            generalize us 4 = v72 at hS hk
            obtain ⟨hd1, rfl, hS1⟩ := St.stree hS (.there .here)
            clear hS
            have hS := hS1
            clear hS1
            rw [snOf_snV] at hS
            (repeat' (first | (show wpListIn _ _ _ _ _ (_ :: _) _ _; first | (refine wx1 ?_; clear hk a; intro a hk) | (refine wx2 ?_ ?_ <;> (intro hp; clear hk a; intro a hk)) | (refine wx3 ?_; clear hk hS a; intro w b hS a hk) | (refine wx4 ?_; clear hk hS a; intro w hS a hk) | (refine wx5 ?_; clear hk hS a; intro w v hS a hk) | fail) | refine wx0 ?_ | (refine s_end hk ?_; clear hk a; intro a hk) | fail))
            rename Value => vn
            obtain ⟨aovn, cvn, hshp, _⟩ := (OwT.rd (hS.rd (A := OwT 48 _ vn) (by (repeat (first | exact At.here | apply At.there))))).shape; subst hshp
            (repeat' (first | (show wpListIn _ _ _ _ _ (_ :: _) _ _; first | (refine wx1 ?_; clear hk a; intro a hk) | (refine wx2 ?_ ?_ <;> (intro hp; clear hk a; intro a hk)) | (refine wx3 ?_; clear hk hS a; intro w b hS a hk) | (refine wx4 ?_; clear hk hS a; intro w hS a hk) | (refine wx5 ?_; clear hk hS a; intro w v hS a hk) | fail) | refine wx0 ?_ | (refine s_end hk ?_; clear hk a; intro a hk) | fail))
            have hS1 := sforR.snoc (L := [OwT 48 (H' ++ [hd1]) (.slice aovn (H' ++ [hd1]).length cvn), pts b3 [.int .i64 id, .int .i64 k, .string tag, .string text, .slice aov20 (mineC cl).length cv20, .slice ao (ownS al).length c, .slice bo (ownI sl).length f, .slice aovn (H' ++ [hd1]).length cvn] 48, OwT 105 (ownI sl) (.slice bo (ownI sl).length f), OwT 97 (ownS al) (.slice ao (ownS al).length c), OwT 9 (mineC cl) (.slice aov20 (mineC cl).length cv20), pts b2 [.int .i64 0, .int .i64 0, .string ⟨#[]⟩, .string ⟨#[]⟩, .slice none 0 0, .slice none 0 0, .slice none 0 0, .slice none 0 0] 48])  (ts := erL (kids.take j)) (H := H') (t := erT tk) (h := hd1) (hS.sub (by (repeat (first | exact Sub.nil | exact Sub.refl | refine Sub.cons (by (repeat (first | exact At.here | apply At.there))) ?_))))
            rw [← hst] at hS1
            exact ⟨hjl, ((aovn, cvn), H' ++ [hd1]), hk.sd, hS1, trivial⟩
        · have hjj : j = kids.length := by have := hF.1; omega
          subst hjj
          rw [List.take_length] at hS
          simp only at hS hk
          (repeat' (first | (show wpListIn _ _ _ _ _ (_ :: _) _ _; first | (refine wx1 ?_; clear hk a; intro a hk) | (refine wx2 ?_ ?_ <;> (intro hp; clear hk a; intro a hk)) | (refine wx3 ?_; clear hk hS a; intro w b hS a hk) | (refine wx4 ?_; clear hk hS a; intro w hS a hk) | (refine wx5 ?_; clear hk hS a; intro w v hS a hk) | fail) | refine wx0 ?_ | (refine s_end hk ?_; clear hk a; intro a hk) | fail))
          refine done1R hk rfl (.str hS (hT := aT rfl) (hs := zT rfl)) (h := ?_)
          exact streeH.of (h := (id, k, tag, text, ⟨aov20, (mineC cl).length, cv20⟩, ⟨ao, (ownS al).length, c⟩, ⟨bo, (ownI sl).length, f⟩, ⟨ak, H'.length, ck⟩)) (streeR.of (A1 := OwT 9 (mineC cl) (.slice aov20 (mineC cl).length cv20)) (A2 := OwT 97 (ownS al) (.slice ao (ownS al).length c)) (A3 := OwT 105 (ownI sl) (.slice bo (ownI sl).length f)) (A4 := OwT 48 H' (.slice ak H'.length ck)) (hS.sub (by (repeat (first | exact Sub.nil | exact Sub.refl | refine Sub.cons (by (repeat (first | exact At.here | apply At.there))) ?_)))))
end Go.Proofs.YtkcjkbnbblpomaaGreatDoor
