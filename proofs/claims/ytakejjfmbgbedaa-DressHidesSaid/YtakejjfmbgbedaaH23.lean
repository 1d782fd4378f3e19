/- Layer 7: may a node without kids be, by itself? The reference; and which names it has, if so. -/
import Derived.Test.YtakejjfmbgbedaaH22
namespace Go.Proofs.Ytakejjfmbgbedaa
open Go.RowKit
set_option maxRecDepth 100000
attribute [local irreducible] Go.Code.wpIn Go.wpListIn Go.Calls Gives Go.Exit.then Go.Exit.inBlock Done ObxE

theorem TrR.nokids {w : World} {k : Int} {tag key text : ByteArray} {cl : List ByteArray} {al : List PrS} {sl : List PrI} {o : Opt} {h1 h2 h3 : Hd} {a4 : Option Addr} {m4 : Nat} (hr : TrR w (.mk k tag key text cl al sl o []) (k, tag, key, text, h1, h2, h3, o, ⟨a4, 0, m4⟩)) : SlT ([] : List NdH) (.slice a4 0 m4) w := by
  cases hr with
  | mk _ _ _ h4 hl _ =>
    have := List.eq_nil_of_length_eq_zero hl
    subst this
    exact h4

set_option maxHeartbeats 16000000 in
theorem may07_any (k : Int) (tag key text : ByteArray) (cl : List ByteArray) (al : List PrS) (sl : List PrI) (e lv m d : Int) (p q : Bool) (a1 a2 a3 a4 : Option Addr) (m1 m2 m3 m4 : Nat) (w0 : World) (ho : okN k tag key text cl al sl (e, lv, m, d, p, q))
    (hr : TrR w0 (.mk k tag key text cl al sl (e, lv, m, d, p, q) []) (k, tag, key, text, ⟨a1, cl.length, m1⟩, ⟨a2, al.length, m2⟩, ⟨a3, sl.length, m3⟩, (e, lv, m, d, p, q), ⟨a4, 0, m4⟩)) :
    Calls Try.prog 57 #[ndV (k, tag, key, text, ⟨a1, cl.length, m1⟩, ⟨a2, al.length, m2⟩, ⟨a3, sl.length, m3⟩, (e, lv, m, d, p, q), ⟨a4, 0, m4⟩)] w0 (Ret fun v w => (∃ b, v = .bool b) ∧ St w0 [] w) := by
  obtain ⟨-, z1, z2, z3, z4, z5, y6, z6, y7, z7, -⟩ := ho
  have hnm : ∀ c ∈ namesL cl al sl, c.size ≤ 40 := Siz.names (X := 40) (fun c hc => by have := z5 c hc; omega) (fun x hx => by have := z6 x hx; omega) (fun x hx => by have := (z7 x hx).1; omega)
  obtain ⟨c1, c2, c3⟩ := hr.sl
  replace c1 : SlT cl (.slice a1 cl.length m1) w0 := c1
  replace c2 : SlT al (.slice a2 al.length m2) w0 := c2
  replace c3 : SlT sl (.slice a3 sl.length m3) w0 := c3
  have c4 := hr.nokids
  have hz0 : ([] : List NdH).length = 0 := rfl
  have hnl : (namesL cl al sl).length ≤ 12 := by unfold namesL; rw [List.length_append, List.length_append, List.length_map, List.length_map]; omega
  show Calls Try.prog 57 #[.agg #[.int .i64 k, .string tag, .string key, .string text, .slice a1 cl.length m1, .slice a2 al.length m2, .slice a3 sl.length m3, .int .i64 e, .int .i64 lv, .int .i64 m, .int .i64 d, .bool p, .bool q, .slice a4 0 m4]] w0 _
  refine enter Try.func57 rfl Try.ntmps57 rfl (fun a hk => ?_); have hS := St.refl w0
  refine wpIn_seq ?_; refine wpIn_region_lit ?_
  refine st_box hk hS ?_; clear hk hS a; intro w b1 hS a hk
  have c4' := hS.rdT c4
  by_cases hk1 : k = 1
  · subst hk1
    (repeat' (first | (show wpListIn _ _ _ _ _ (_ :: _) _ _; first | (refine wx1 ?_; clear hk a; intro a hk) | (refine wx2 ?_ ?_ <;> (intro hp; clear hk a; intro a hk)) | (refine wx3 ?_; clear hk hS a; intro w b hS a hk) | (refine wx4 ?_; clear hk hS a; intro w hS a hk) | (refine wx5 ?_; clear hk hS a; intro w v hS a hk) | fail) | refine wx0 ?_ | (refine s_end hk ?_; clear hk a; intro a hk) | fail))
    refine sg hk (g_callO hk (hf := by kernel_rfl) (hc := rtext_any text (by omega) _) (h := ?_)); clear hk a; rintro _ w ⟨rfl, hS1⟩ a hk; replace hS := hS.call0 hS1; clear hS1
    generalize txtS text = bb at hk
    cases bb with
    | false => (repeat' (first | (show wpListIn _ _ _ _ _ (_ :: _) _ _; first | (refine wx1 ?_; clear hk a; intro a hk) | (refine wx2 ?_ ?_ <;> (intro hp; clear hk a; intro a hk)) | (refine wx3 ?_; clear hk hS a; intro w b hS a hk) | (refine wx4 ?_; clear hk hS a; intro w hS a hk) | (refine wx5 ?_; clear hk hS a; intro w v hS a hk) | fail) | refine wx0 ?_ | (refine s_end hk ?_; clear hk a; intro a hk) | fail)); exact done1 hk (h := ⟨⟨_, rfl⟩, hS.nil⟩)
    | true =>
      (repeat' (first | (show wpListIn _ _ _ _ _ (_ :: _) _ _; first | (refine wx1 ?_; clear hk a; intro a hk) | (refine wx2 ?_ ?_ <;> (intro hp; clear hk a; intro a hk)) | (refine wx3 ?_; clear hk hS a; intro w b hS a hk) | (refine wx4 ?_; clear hk hS a; intro w hS a hk) | (refine wx5 ?_; clear hk hS a; intro w v hS a hk) | fail) | refine wx0 ?_ | (refine s_end hk ?_; clear hk a; intro a hk) | fail))
      all_goals try exact done1 hk (h := ⟨⟨_, rfl⟩, hS.nil⟩)
      refine sg hk (g_callO hk (hf := by kernel_rfl) (hc := names07_any (.mk 1 tag key text cl al sl (e, lv, m, d, p, q) []) (1, tag, key, text, ⟨a1, cl.length, m1⟩, ⟨a2, al.length, m2⟩, ⟨a3, sl.length, m3⟩, (e, lv, m, d, p, q), ⟨a4, 0, m4⟩) _ (hS.rdTr hr) cl al sl ⟨by omega, by omega, by omega⟩ rfl) (h := ?_)); clear hk a; rintro vn w hS1 a hk; replace hS := hS.call hS1; clear hS1
      (repeat' (first | (show wpListIn _ _ _ _ _ (_ :: _) _ _; first | (refine wx1 ?_; clear hk a; intro a hk) | (refine wx2 ?_ ?_ <;> (intro hp; clear hk a; intro a hk)) | (refine wx3 ?_; clear hk hS a; intro w b hS a hk) | (refine wx4 ?_; clear hk hS a; intro w hS a hk) | (refine wx5 ?_; clear hk hS a; intro w v hS a hk) | fail) | refine wx0 ?_ | (refine s_end hk ?_; clear hk a; intro a hk) | fail))
      all_goals exact done1 hk (h := ⟨⟨_, rfl⟩, hS.nil⟩)
  · (repeat' (first | (show wpListIn _ _ _ _ _ (_ :: _) _ _; first | (refine wx1 ?_; clear hk a; intro a hk) | (refine wx2 ?_ ?_ <;> (intro hp; clear hk a; intro a hk)) | (refine wx3 ?_; clear hk hS a; intro w b hS a hk) | (refine wx4 ?_; clear hk hS a; intro w hS a hk) | (refine wx5 ?_; clear hk hS a; intro w v hS a hk) | fail) | refine wx0 ?_ | (refine s_end hk ?_; clear hk a; intro a hk) | fail))
    all_goals try exact done1 hk (h := ⟨⟨_, rfl⟩, hS.nil⟩)
    rename Nat => b2
    refine sg hk (g_callO hk (hf := by kernel_rfl) (hc := rname_any tag (by omega) _) (h := ?_)); clear hk a; rintro _ w ⟨rfl, hS1⟩ a hk; replace hS := hS.call0 hS1; clear hS1
    generalize nameS tag = bb at hk
    cases bb with
    | false => (repeat' (first | (show wpListIn _ _ _ _ _ (_ :: _) _ _; first | (refine wx1 ?_; clear hk a; intro a hk) | (refine wx2 ?_ ?_ <;> (intro hp; clear hk a; intro a hk)) | (refine wx3 ?_; clear hk hS a; intro w b hS a hk) | (refine wx4 ?_; clear hk hS a; intro w hS a hk) | (refine wx5 ?_; clear hk hS a; intro w v hS a hk) | fail) | refine wx0 ?_ | (refine s_end hk ?_; clear hk a; intro a hk) | fail)); all_goals exact done1 hk (h := ⟨⟨_, rfl⟩, hS.nil⟩)
    | true =>
      by_cases hky : key = ⟨#[]⟩
      · (repeat' (first | (show wpListIn _ _ _ _ _ (_ :: _) _ _; first | (refine wx1 ?_; clear hk a; intro a hk) | (refine wx2 ?_ ?_ <;> (intro hp; clear hk a; intro a hk)) | (refine wx3 ?_; clear hk hS a; intro w b hS a hk) | (refine wx4 ?_; clear hk hS a; intro w hS a hk) | (refine wx5 ?_; clear hk hS a; intro w v hS a hk) | fail) | refine wx0 ?_ | (refine s_end hk ?_; clear hk a; intro a hk) | fail))
        refine sg hk (g_callO hk (hf := by kernel_rfl) (hc := names07_any (.mk k tag key text cl al sl (e, lv, m, d, p, q) []) (k, tag, key, text, ⟨a1, cl.length, m1⟩, ⟨a2, al.length, m2⟩, ⟨a3, sl.length, m3⟩, (e, lv, m, d, p, q), ⟨a4, 0, m4⟩) _ (hS.rdTr hr) cl al sl ⟨by omega, by omega, by omega⟩ rfl) (h := ?_)); clear hk a; rintro vn w hS1 a hk; replace hS := hS.call hS1; clear hS1
        (repeat' (first | (show wpListIn _ _ _ _ _ (_ :: _) _ _; first | (refine wx1 ?_; clear hk a; intro a hk) | (refine wx2 ?_ ?_ <;> (intro hp; clear hk a; intro a hk)) | (refine wx3 ?_; clear hk hS a; intro w b hS a hk) | (refine wx4 ?_; clear hk hS a; intro w hS a hk) | (refine wx5 ?_; clear hk hS a; intro w v hS a hk) | fail) | refine wx0 ?_ | (refine s_end hk ?_; clear hk a; intro a hk) | fail))
        replace hk := Kn.kp [1, 3, 81, 82, 83] hk
        refine wp_for (namesL cl al sl).length (fun i _ => [(83, .int .i64 (i : Int))]) (fun _ _ => [OwT 9 (namesL cl al sl) vn, pts b1 [.int .i64 k, .string tag, .string key, .string text, .slice a1 cl.length m1, .slice a2 al.length m2, .slice a3 sl.length m3, .int .i64 e, .int .i64 lv, .int .i64 m, .int .i64 d, .bool p, .bool q, .slice a4 0 m4] 44, pts b2 [.int .i64 0, .int .i64 0, .int .i64 0, .int .i64 0, .bool false, .bool false] 26]) (fun _ _ => True) () hk (by repeat (first | exact trivial | refine ⟨rfl, ?_⟩)) (hS.sub (by (repeat (first | exact Sub.nil | exact Sub.refl | refine Sub.cons (by (repeat (first | exact At.here | apply At.there))) ?_)))) trivial ?_
        clear hk hS a
        rintro i - a w hi hk hS -
        by_cases hil : i < (namesL cl al sl).length
        · obtain ⟨x, hx⟩ : ∃ x, (namesL cl al sl)[i]? = some x := ⟨_, List.getElem?_eq_getElem hil⟩
          have hxs := hnm x (List.mem_of_getElem? hx)
          (repeat' (first | (show wpListIn _ _ _ _ _ (_ :: _) _ _; first | (refine wx1 ?_; clear hk a; intro a hk) | (refine wx2 ?_ ?_ <;> (intro hp; clear hk a; intro a hk)) | (refine wx3 ?_; clear hk hS a; intro w b hS a hk) | (refine wx4 ?_; clear hk hS a; intro w hS a hk) | (refine wx5 ?_; clear hk hS a; intro w v hS a hk) | fail) | refine wx0 ?_ | (refine s_end hk ?_; clear hk a; intro a hk) | fail))
          refine sg hk (g_callO hk (hf := by kernel_rfl) (hc := rname_any x (by omega) _) (h := ?_)); clear hk a; rintro _ w ⟨rfl, hS1⟩ a hk; replace hS := hS.call0 hS1; clear hS1
          generalize nameS x = bb at hk
          cases bb with
          | false => (repeat' (first | (show wpListIn _ _ _ _ _ (_ :: _) _ _; first | (refine wx1 ?_; clear hk a; intro a hk) | (refine wx2 ?_ ?_ <;> (intro hp; clear hk a; intro a hk)) | (refine wx3 ?_; clear hk hS a; intro w b hS a hk) | (refine wx4 ?_; clear hk hS a; intro w hS a hk) | (refine wx5 ?_; clear hk hS a; intro w v hS a hk) | fail) | refine wx0 ?_ | (refine s_end hk ?_; clear hk a; intro a hk) | fail)); exact done1 hk (h := ⟨⟨_, rfl⟩, hS.nil⟩)
          | true => (repeat' (first | (show wpListIn _ _ _ _ _ (_ :: _) _ _; first | (refine wx1 ?_; clear hk a; intro a hk) | (refine wx2 ?_ ?_ <;> (intro hp; clear hk a; intro a hk)) | (refine wx3 ?_; clear hk hS a; intro w b hS a hk) | (refine wx4 ?_; clear hk hS a; intro w hS a hk) | (refine wx5 ?_; clear hk hS a; intro w v hS a hk) | fail) | refine wx0 ?_ | (refine s_end hk ?_; clear hk a; intro a hk) | fail)); exact ⟨hil, (), hk.sd, hS.sb, trivial⟩
        · have hii : i = (namesL cl al sl).length := by omega
          subst hii
          have c2' := hS.rdT c2
          (repeat' (first | (show wpListIn _ _ _ _ _ (_ :: _) _ _; first | (refine wx1 ?_; clear hk a; intro a hk) | (refine wx2 ?_ ?_ <;> (intro hp; clear hk a; intro a hk)) | (refine wx3 ?_; clear hk hS a; intro w b hS a hk) | (refine wx4 ?_; clear hk hS a; intro w hS a hk) | (refine wx5 ?_; clear hk hS a; intro w v hS a hk) | fail) | refine wx0 ?_ | (refine s_end hk ?_; clear hk a; intro a hk) | fail))
          replace hk := Kn.kp [1, 3, 92, 93, 94] hk
          refine wp_for al.length (fun i _ => [(94, .int .i64 (i : Int))]) (fun _ _ => [pts b1 [.int .i64 k, .string tag, .string key, .string text, .slice a1 cl.length m1, .slice a2 al.length m2, .slice a3 sl.length m3, .int .i64 e, .int .i64 lv, .int .i64 m, .int .i64 d, .bool p, .bool q, .slice a4 0 m4] 44, pts b2 [.int .i64 0, .int .i64 0, .int .i64 0, .int .i64 0, .bool false, .bool false] 26]) (fun _ _ => True) () hk (by repeat (first | exact trivial | refine ⟨rfl, ?_⟩)) (hS.sub (by (repeat (first | exact Sub.nil | exact Sub.refl | refine Sub.cons (by (repeat (first | exact At.here | apply At.there))) ?_)))) trivial ?_
          clear hk hS a
          rintro i - a w hi hk hS -
          by_cases hil : i < al.length
          · obtain ⟨⟨nm, val⟩, hx⟩ : ∃ x, al[i]? = some x := ⟨_, List.getElem?_eq_getElem hil⟩
            have hv2 := hS.rdT c2
            have hvs := (z6 _ (List.mem_of_getElem? hx)).2
            simp only at hvs
            (repeat' (first | (show wpListIn _ _ _ _ _ (_ :: _) _ _; first | (refine wx1 ?_; clear hk a; intro a hk) | (refine wx2 ?_ ?_ <;> (intro hp; clear hk a; intro a hk)) | (refine wx3 ?_; clear hk hS a; intro w b hS a hk) | (refine wx4 ?_; clear hk hS a; intro w hS a hk) | (refine wx5 ?_; clear hk hS a; intro w v hS a hk) | fail) | refine wx0 ?_ | (refine s_end hk ?_; clear hk a; intro a hk) | fail))
            refine sg hk (g_callO hk (hf := by kernel_rfl) (hc := rvalue_any val (by omega) _) (h := ?_)); clear hk a; rintro _ w ⟨rfl, hS1⟩ a hk; replace hS := hS.call0 hS1; clear hS1
            generalize valS val = bb at hk
            cases bb with
            | false => (repeat' (first | (show wpListIn _ _ _ _ _ (_ :: _) _ _; first | (refine wx1 ?_; clear hk a; intro a hk) | (refine wx2 ?_ ?_ <;> (intro hp; clear hk a; intro a hk)) | (refine wx3 ?_; clear hk hS a; intro w b hS a hk) | (refine wx4 ?_; clear hk hS a; intro w hS a hk) | (refine wx5 ?_; clear hk hS a; intro w v hS a hk) | fail) | refine wx0 ?_ | (refine s_end hk ?_; clear hk a; intro a hk) | fail)); exact done1 hk (h := ⟨⟨_, rfl⟩, hS.nil⟩)
            | true => (repeat' (first | (show wpListIn _ _ _ _ _ (_ :: _) _ _; first | (refine wx1 ?_; clear hk a; intro a hk) | (refine wx2 ?_ ?_ <;> (intro hp; clear hk a; intro a hk)) | (refine wx3 ?_; clear hk hS a; intro w b hS a hk) | (refine wx4 ?_; clear hk hS a; intro w hS a hk) | (refine wx5 ?_; clear hk hS a; intro w v hS a hk) | fail) | refine wx0 ?_ | (refine s_end hk ?_; clear hk a; intro a hk) | fail)); exact ⟨hil, (), hk.sd, hS.sb, trivial⟩
          · have hii : i = al.length := by omega
            subst hii
            have c3' := hS.rdT c3
            (repeat' (first | (show wpListIn _ _ _ _ _ (_ :: _) _ _; first | (refine wx1 ?_; clear hk a; intro a hk) | (refine wx2 ?_ ?_ <;> (intro hp; clear hk a; intro a hk)) | (refine wx3 ?_; clear hk hS a; intro w b hS a hk) | (refine wx4 ?_; clear hk hS a; intro w hS a hk) | (refine wx5 ?_; clear hk hS a; intro w v hS a hk) | fail) | refine wx0 ?_ | (refine s_end hk ?_; clear hk a; intro a hk) | fail))
            replace hk := Kn.kp [1, 3, 104, 105, 106] hk
            refine wp_for sl.length (fun i _ => [(106, .int .i64 (i : Int))]) (fun _ _ => [pts b1 [.int .i64 k, .string tag, .string key, .string text, .slice a1 cl.length m1, .slice a2 al.length m2, .slice a3 sl.length m3, .int .i64 e, .int .i64 lv, .int .i64 m, .int .i64 d, .bool p, .bool q, .slice a4 0 m4] 44, pts b2 [.int .i64 0, .int .i64 0, .int .i64 0, .int .i64 0, .bool false, .bool false] 26]) (fun _ _ => True) () hk (by repeat (first | exact trivial | refine ⟨rfl, ?_⟩)) (hS.sub (by (repeat (first | exact Sub.nil | exact Sub.refl | refine Sub.cons (by (repeat (first | exact At.here | apply At.there))) ?_)))) trivial ?_
            clear hk hS a
            rintro i - a w hi hk hS -
            by_cases hil : i < sl.length
            · obtain ⟨⟨nm, z⟩, hx⟩ : ∃ x, sl[i]? = some x := ⟨_, List.getElem?_eq_getElem hil⟩
              have hv2 := hS.rdT c3
              (repeat' (first | (show wpListIn _ _ _ _ _ (_ :: _) _ _; first | (refine wx1 ?_; clear hk a; intro a hk) | (refine wx2 ?_ ?_ <;> (intro hp; clear hk a; intro a hk)) | (refine wx3 ?_; clear hk hS a; intro w b hS a hk) | (refine wx4 ?_; clear hk hS a; intro w hS a hk) | (refine wx5 ?_; clear hk hS a; intro w v hS a hk) | fail) | refine wx0 ?_ | (refine s_end hk ?_; clear hk a; intro a hk) | fail))
              all_goals first
                | exact done1 hk (h := ⟨⟨_, rfl⟩, hS.nil⟩)
                | exact ⟨hil, (), hk.sd, hS.sb, trivial⟩
            · have hii : i = sl.length := by omega
              subst hii
              (repeat' (first | (show wpListIn _ _ _ _ _ (_ :: _) _ _; first | (refine wx1 ?_; clear hk a; intro a hk) | (refine wx2 ?_ ?_ <;> (intro hp; clear hk a; intro a hk)) | (refine wx3 ?_; clear hk hS a; intro w b hS a hk) | (refine wx4 ?_; clear hk hS a; intro w hS a hk) | (refine wx5 ?_; clear hk hS a; intro w v hS a hk) | fail) | refine wx0 ?_ | (refine s_end hk ?_; clear hk a; intro a hk) | fail))
              all_goals try exact done1 hk (h := ⟨⟨_, rfl⟩, hS.nil⟩)
              all_goals
                rename Nat => b3
                refine sg hk (g_bsT (xs := [e, lv, m]) (m := 2) hk hS ?_ (hT := eT rfl) (hE := zT rfl) (hz := oT rfl)); clear hk hS a; intro w vb hS a hk
                (repeat' (first | (show wpListIn _ _ _ _ _ (_ :: _) _ _; first | (refine wx1 ?_; clear hk a; intro a hk) | (refine wx2 ?_ ?_ <;> (intro hp; clear hk a; intro a hk)) | (refine wx3 ?_; clear hk hS a; intro w b hS a hk) | (refine wx4 ?_; clear hk hS a; intro w hS a hk) | (refine wx5 ?_; clear hk hS a; intro w v hS a hk) | fail) | refine wx0 ?_ | (refine s_end hk ?_; clear hk a; intro a hk) | fail))
                replace hk := Kn.kp [1, 10, 135, 136, 137] hk
                refine wp_for 3 (fun i _ => [(137, .int .i64 (i : Int))]) (fun _ _ => [OwT 3 [e, lv, m] vb, pts b3 [.int .i64 e, .int .i64 lv, .int .i64 m, .int .i64 d, .bool p, .bool q] 26, pts b1 [.int .i64 k, .string tag, .string key, .string text, .slice a1 cl.length m1, .slice a2 al.length m2, .slice a3 sl.length m3, .int .i64 e, .int .i64 lv, .int .i64 m, .int .i64 d, .bool p, .bool q, .slice a4 0 m4] 44]) (fun _ _ => True) () hk (by repeat (first | exact trivial | refine ⟨rfl, ?_⟩)) (hS.sub (by (repeat (first | exact Sub.nil | exact Sub.refl | refine Sub.cons (by (repeat (first | exact At.here | apply At.there))) ?_)))) trivial ?_
                clear hk hS a
                rintro i - a w hi hk hS -
                have hl3 : ([e, lv, m] : List Int).length = 3 := rfl
                by_cases hil : i < 3
                · obtain ⟨x, hx⟩ : ∃ x, ([e, lv, m] : List Int)[i]? = some x := ⟨_, List.getElem?_eq_getElem hil⟩
                  (repeat' (first | (show wpListIn _ _ _ _ _ (_ :: _) _ _; first | (refine wx1 ?_; clear hk a; intro a hk) | (refine wx2 ?_ ?_ <;> (intro hp; clear hk a; intro a hk)) | (refine wx3 ?_; clear hk hS a; intro w b hS a hk) | (refine wx4 ?_; clear hk hS a; intro w hS a hk) | (refine wx5 ?_; clear hk hS a; intro w v hS a hk) | fail) | refine wx0 ?_ | (refine s_end hk ?_; clear hk a; intro a hk) | fail))
                  all_goals first
                    | exact done1 hk (h := ⟨⟨_, rfl⟩, hS.nil⟩)
                    | exact ⟨hil, (), hk.sd, hS.sb, trivial⟩
                · have hii : i = 3 := by omega
                  subst hii
                  have c4' := hS.rdT c4
                  cases q
                  all_goals (repeat' (first | (show wpListIn _ _ _ _ _ (_ :: _) _ _; first | (refine wx1 ?_; clear hk a; intro a hk) | (refine wx2 ?_ ?_ <;> (intro hp; clear hk a; intro a hk)) | (refine wx3 ?_; clear hk hS a; intro w b hS a hk) | (refine wx4 ?_; clear hk hS a; intro w hS a hk) | (refine wx5 ?_; clear hk hS a; intro w v hS a hk) | fail) | refine wx0 ?_ | (refine s_end hk ?_; clear hk a; intro a hk) | fail))
                  all_goals try exact done1 hk (h := ⟨⟨_, rfl⟩, hS.nil⟩)
                  all_goals
                    replace hk := Kn.kp [1, 185, 186, 187] hk
                    refine wp_for 0 (fun i _ => [(187, .int .i64 (i : Int))]) (fun _ _ => []) (fun _ _ => True) () hk (by repeat (first | exact trivial | refine ⟨rfl, ?_⟩)) hS.nil trivial ?_
                    clear hk hS a
                    rintro i - a w hi hk hS -
                    have hii : i = 0 := by omega
                    subst hii
                    (repeat' (first | (show wpListIn _ _ _ _ _ (_ :: _) _ _; first | (refine wx1 ?_; clear hk a; intro a hk) | (refine wx2 ?_ ?_ <;> (intro hp; clear hk a; intro a hk)) | (refine wx3 ?_; clear hk hS a; intro w b hS a hk) | (refine wx4 ?_; clear hk hS a; intro w hS a hk) | (refine wx5 ?_; clear hk hS a; intro w v hS a hk) | fail) | refine wx0 ?_ | (refine s_end hk ?_; clear hk a; intro a hk) | fail))
                    exact done1 hk (h := ⟨⟨_, rfl⟩, hS.nil⟩)
      · (repeat' (first | (show wpListIn _ _ _ _ _ (_ :: _) _ _; first | (refine wx1 ?_; clear hk a; intro a hk) | (refine wx2 ?_ ?_ <;> (intro hp; clear hk a; intro a hk)) | (refine wx3 ?_; clear hk hS a; intro w b hS a hk) | (refine wx4 ?_; clear hk hS a; intro w hS a hk) | (refine wx5 ?_; clear hk hS a; intro w v hS a hk) | fail) | refine wx0 ?_ | (refine s_end hk ?_; clear hk a; intro a hk) | fail))
        refine sg hk (g_callO hk (hf := by kernel_rfl) (hc := rkey_any key (by omega) _) (h := ?_)); clear hk a; rintro _ w ⟨rfl, hS1⟩ a hk; replace hS := hS.call0 hS1; clear hS1
        generalize keyS key = bb at hk
        cases bb with
        | false => (repeat' (first | (show wpListIn _ _ _ _ _ (_ :: _) _ _; first | (refine wx1 ?_; clear hk a; intro a hk) | (refine wx2 ?_ ?_ <;> (intro hp; clear hk a; intro a hk)) | (refine wx3 ?_; clear hk hS a; intro w b hS a hk) | (refine wx4 ?_; clear hk hS a; intro w hS a hk) | (refine wx5 ?_; clear hk hS a; intro w v hS a hk) | fail) | refine wx0 ?_ | (refine s_end hk ?_; clear hk a; intro a hk) | fail)); exact done1 hk (h := ⟨⟨_, rfl⟩, hS.nil⟩)
        | true =>
          (repeat' (first | (show wpListIn _ _ _ _ _ (_ :: _) _ _; first | (refine wx1 ?_; clear hk a; intro a hk) | (refine wx2 ?_ ?_ <;> (intro hp; clear hk a; intro a hk)) | (refine wx3 ?_; clear hk hS a; intro w b hS a hk) | (refine wx4 ?_; clear hk hS a; intro w hS a hk) | (refine wx5 ?_; clear hk hS a; intro w v hS a hk) | fail) | refine wx0 ?_ | (refine s_end hk ?_; clear hk a; intro a hk) | fail))
          refine sg hk (g_callO hk (hf := by kernel_rfl) (hc := names07_any (.mk k tag key text cl al sl (e, lv, m, d, p, q) []) (k, tag, key, text, ⟨a1, cl.length, m1⟩, ⟨a2, al.length, m2⟩, ⟨a3, sl.length, m3⟩, (e, lv, m, d, p, q), ⟨a4, 0, m4⟩) _ (hS.rdTr hr) cl al sl ⟨by omega, by omega, by omega⟩ rfl) (h := ?_)); clear hk a; rintro vn w hS1 a hk; replace hS := hS.call hS1; clear hS1
          (repeat' (first | (show wpListIn _ _ _ _ _ (_ :: _) _ _; first | (refine wx1 ?_; clear hk a; intro a hk) | (refine wx2 ?_ ?_ <;> (intro hp; clear hk a; intro a hk)) | (refine wx3 ?_; clear hk hS a; intro w b hS a hk) | (refine wx4 ?_; clear hk hS a; intro w hS a hk) | (refine wx5 ?_; clear hk hS a; intro w v hS a hk) | fail) | refine wx0 ?_ | (refine s_end hk ?_; clear hk a; intro a hk) | fail))
          replace hk := Kn.kp [1, 3, 81, 82, 83] hk
          refine wp_for (namesL cl al sl).length (fun i _ => [(83, .int .i64 (i : Int))]) (fun _ _ => [OwT 9 (namesL cl al sl) vn, pts b1 [.int .i64 k, .string tag, .string key, .string text, .slice a1 cl.length m1, .slice a2 al.length m2, .slice a3 sl.length m3, .int .i64 e, .int .i64 lv, .int .i64 m, .int .i64 d, .bool p, .bool q, .slice a4 0 m4] 44, pts b2 [.int .i64 0, .int .i64 0, .int .i64 0, .int .i64 0, .bool false, .bool false] 26]) (fun _ _ => True) () hk (by repeat (first | exact trivial | refine ⟨rfl, ?_⟩)) (hS.sub (by (repeat (first | exact Sub.nil | exact Sub.refl | refine Sub.cons (by (repeat (first | exact At.here | apply At.there))) ?_)))) trivial ?_
          clear hk hS a
          rintro i - a w hi hk hS -
          by_cases hil : i < (namesL cl al sl).length
          · obtain ⟨x, hx⟩ : ∃ x, (namesL cl al sl)[i]? = some x := ⟨_, List.getElem?_eq_getElem hil⟩
            have hxs := hnm x (List.mem_of_getElem? hx)
            (repeat' (first | (show wpListIn _ _ _ _ _ (_ :: _) _ _; first | (refine wx1 ?_; clear hk a; intro a hk) | (refine wx2 ?_ ?_ <;> (intro hp; clear hk a; intro a hk)) | (refine wx3 ?_; clear hk hS a; intro w b hS a hk) | (refine wx4 ?_; clear hk hS a; intro w hS a hk) | (refine wx5 ?_; clear hk hS a; intro w v hS a hk) | fail) | refine wx0 ?_ | (refine s_end hk ?_; clear hk a; intro a hk) | fail))
            refine sg hk (g_callO hk (hf := by kernel_rfl) (hc := rname_any x (by omega) _) (h := ?_)); clear hk a; rintro _ w ⟨rfl, hS1⟩ a hk; replace hS := hS.call0 hS1; clear hS1
            generalize nameS x = bb at hk
            cases bb with
            | false => (repeat' (first | (show wpListIn _ _ _ _ _ (_ :: _) _ _; first | (refine wx1 ?_; clear hk a; intro a hk) | (refine wx2 ?_ ?_ <;> (intro hp; clear hk a; intro a hk)) | (refine wx3 ?_; clear hk hS a; intro w b hS a hk) | (refine wx4 ?_; clear hk hS a; intro w hS a hk) | (refine wx5 ?_; clear hk hS a; intro w v hS a hk) | fail) | refine wx0 ?_ | (refine s_end hk ?_; clear hk a; intro a hk) | fail)); exact done1 hk (h := ⟨⟨_, rfl⟩, hS.nil⟩)
            | true => (repeat' (first | (show wpListIn _ _ _ _ _ (_ :: _) _ _; first | (refine wx1 ?_; clear hk a; intro a hk) | (refine wx2 ?_ ?_ <;> (intro hp; clear hk a; intro a hk)) | (refine wx3 ?_; clear hk hS a; intro w b hS a hk) | (refine wx4 ?_; clear hk hS a; intro w hS a hk) | (refine wx5 ?_; clear hk hS a; intro w v hS a hk) | fail) | refine wx0 ?_ | (refine s_end hk ?_; clear hk a; intro a hk) | fail)); exact ⟨hil, (), hk.sd, hS.sb, trivial⟩
          · have hii : i = (namesL cl al sl).length := by omega
            subst hii
            have c2' := hS.rdT c2
            (repeat' (first | (show wpListIn _ _ _ _ _ (_ :: _) _ _; first | (refine wx1 ?_; clear hk a; intro a hk) | (refine wx2 ?_ ?_ <;> (intro hp; clear hk a; intro a hk)) | (refine wx3 ?_; clear hk hS a; intro w b hS a hk) | (refine wx4 ?_; clear hk hS a; intro w hS a hk) | (refine wx5 ?_; clear hk hS a; intro w v hS a hk) | fail) | refine wx0 ?_ | (refine s_end hk ?_; clear hk a; intro a hk) | fail))
            replace hk := Kn.kp [1, 3, 92, 93, 94] hk
            refine wp_for al.length (fun i _ => [(94, .int .i64 (i : Int))]) (fun _ _ => [pts b1 [.int .i64 k, .string tag, .string key, .string text, .slice a1 cl.length m1, .slice a2 al.length m2, .slice a3 sl.length m3, .int .i64 e, .int .i64 lv, .int .i64 m, .int .i64 d, .bool p, .bool q, .slice a4 0 m4] 44, pts b2 [.int .i64 0, .int .i64 0, .int .i64 0, .int .i64 0, .bool false, .bool false] 26]) (fun _ _ => True) () hk (by repeat (first | exact trivial | refine ⟨rfl, ?_⟩)) (hS.sub (by (repeat (first | exact Sub.nil | exact Sub.refl | refine Sub.cons (by (repeat (first | exact At.here | apply At.there))) ?_)))) trivial ?_
            clear hk hS a
            rintro i - a w hi hk hS -
            by_cases hil : i < al.length
            · obtain ⟨⟨nm, val⟩, hx⟩ : ∃ x, al[i]? = some x := ⟨_, List.getElem?_eq_getElem hil⟩
              have hv2 := hS.rdT c2
              have hvs := (z6 _ (List.mem_of_getElem? hx)).2
              simp only at hvs
              (repeat' (first | (show wpListIn _ _ _ _ _ (_ :: _) _ _; first | (refine wx1 ?_; clear hk a; intro a hk) | (refine wx2 ?_ ?_ <;> (intro hp; clear hk a; intro a hk)) | (refine wx3 ?_; clear hk hS a; intro w b hS a hk) | (refine wx4 ?_; clear hk hS a; intro w hS a hk) | (refine wx5 ?_; clear hk hS a; intro w v hS a hk) | fail) | refine wx0 ?_ | (refine s_end hk ?_; clear hk a; intro a hk) | fail))
              refine sg hk (g_callO hk (hf := by kernel_rfl) (hc := rvalue_any val (by omega) _) (h := ?_)); clear hk a; rintro _ w ⟨rfl, hS1⟩ a hk; replace hS := hS.call0 hS1; clear hS1
              generalize valS val = bb at hk
              cases bb with
              | false => (repeat' (first | (show wpListIn _ _ _ _ _ (_ :: _) _ _; first | (refine wx1 ?_; clear hk a; intro a hk) | (refine wx2 ?_ ?_ <;> (intro hp; clear hk a; intro a hk)) | (refine wx3 ?_; clear hk hS a; intro w b hS a hk) | (refine wx4 ?_; clear hk hS a; intro w hS a hk) | (refine wx5 ?_; clear hk hS a; intro w v hS a hk) | fail) | refine wx0 ?_ | (refine s_end hk ?_; clear hk a; intro a hk) | fail)); exact done1 hk (h := ⟨⟨_, rfl⟩, hS.nil⟩)
              | true => (repeat' (first | (show wpListIn _ _ _ _ _ (_ :: _) _ _; first | (refine wx1 ?_; clear hk a; intro a hk) | (refine wx2 ?_ ?_ <;> (intro hp; clear hk a; intro a hk)) | (refine wx3 ?_; clear hk hS a; intro w b hS a hk) | (refine wx4 ?_; clear hk hS a; intro w hS a hk) | (refine wx5 ?_; clear hk hS a; intro w v hS a hk) | fail) | refine wx0 ?_ | (refine s_end hk ?_; clear hk a; intro a hk) | fail)); exact ⟨hil, (), hk.sd, hS.sb, trivial⟩
            · have hii : i = al.length := by omega
              subst hii
              have c3' := hS.rdT c3
              (repeat' (first | (show wpListIn _ _ _ _ _ (_ :: _) _ _; first | (refine wx1 ?_; clear hk a; intro a hk) | (refine wx2 ?_ ?_ <;> (intro hp; clear hk a; intro a hk)) | (refine wx3 ?_; clear hk hS a; intro w b hS a hk) | (refine wx4 ?_; clear hk hS a; intro w hS a hk) | (refine wx5 ?_; clear hk hS a; intro w v hS a hk) | fail) | refine wx0 ?_ | (refine s_end hk ?_; clear hk a; intro a hk) | fail))
              replace hk := Kn.kp [1, 3, 104, 105, 106] hk
              refine wp_for sl.length (fun i _ => [(106, .int .i64 (i : Int))]) (fun _ _ => [pts b1 [.int .i64 k, .string tag, .string key, .string text, .slice a1 cl.length m1, .slice a2 al.length m2, .slice a3 sl.length m3, .int .i64 e, .int .i64 lv, .int .i64 m, .int .i64 d, .bool p, .bool q, .slice a4 0 m4] 44, pts b2 [.int .i64 0, .int .i64 0, .int .i64 0, .int .i64 0, .bool false, .bool false] 26]) (fun _ _ => True) () hk (by repeat (first | exact trivial | refine ⟨rfl, ?_⟩)) (hS.sub (by (repeat (first | exact Sub.nil | exact Sub.refl | refine Sub.cons (by (repeat (first | exact At.here | apply At.there))) ?_)))) trivial ?_
              clear hk hS a
              rintro i - a w hi hk hS -
              by_cases hil : i < sl.length
              · obtain ⟨⟨nm, z⟩, hx⟩ : ∃ x, sl[i]? = some x := ⟨_, List.getElem?_eq_getElem hil⟩
                have hv2 := hS.rdT c3
                (repeat' (first | (show wpListIn _ _ _ _ _ (_ :: _) _ _; first | (refine wx1 ?_; clear hk a; intro a hk) | (refine wx2 ?_ ?_ <;> (intro hp; clear hk a; intro a hk)) | (refine wx3 ?_; clear hk hS a; intro w b hS a hk) | (refine wx4 ?_; clear hk hS a; intro w hS a hk) | (refine wx5 ?_; clear hk hS a; intro w v hS a hk) | fail) | refine wx0 ?_ | (refine s_end hk ?_; clear hk a; intro a hk) | fail))
                all_goals first
                  | exact done1 hk (h := ⟨⟨_, rfl⟩, hS.nil⟩)
                  | exact ⟨hil, (), hk.sd, hS.sb, trivial⟩
              · have hii : i = sl.length := by omega
                subst hii
                (repeat' (first | (show wpListIn _ _ _ _ _ (_ :: _) _ _; first | (refine wx1 ?_; clear hk a; intro a hk) | (refine wx2 ?_ ?_ <;> (intro hp; clear hk a; intro a hk)) | (refine wx3 ?_; clear hk hS a; intro w b hS a hk) | (refine wx4 ?_; clear hk hS a; intro w hS a hk) | (refine wx5 ?_; clear hk hS a; intro w v hS a hk) | fail) | refine wx0 ?_ | (refine s_end hk ?_; clear hk a; intro a hk) | fail))
                all_goals try exact done1 hk (h := ⟨⟨_, rfl⟩, hS.nil⟩)
                all_goals
                  rename Nat => b3
                  refine sg hk (g_bsT (xs := [e, lv, m]) (m := 2) hk hS ?_ (hT := eT rfl) (hE := zT rfl) (hz := oT rfl)); clear hk hS a; intro w vb hS a hk
                  (repeat' (first | (show wpListIn _ _ _ _ _ (_ :: _) _ _; first | (refine wx1 ?_; clear hk a; intro a hk) | (refine wx2 ?_ ?_ <;> (intro hp; clear hk a; intro a hk)) | (refine wx3 ?_; clear hk hS a; intro w b hS a hk) | (refine wx4 ?_; clear hk hS a; intro w hS a hk) | (refine wx5 ?_; clear hk hS a; intro w v hS a hk) | fail) | refine wx0 ?_ | (refine s_end hk ?_; clear hk a; intro a hk) | fail))
                  replace hk := Kn.kp [1, 10, 135, 136, 137] hk
                  refine wp_for 3 (fun i _ => [(137, .int .i64 (i : Int))]) (fun _ _ => [OwT 3 [e, lv, m] vb, pts b3 [.int .i64 e, .int .i64 lv, .int .i64 m, .int .i64 d, .bool p, .bool q] 26, pts b1 [.int .i64 k, .string tag, .string key, .string text, .slice a1 cl.length m1, .slice a2 al.length m2, .slice a3 sl.length m3, .int .i64 e, .int .i64 lv, .int .i64 m, .int .i64 d, .bool p, .bool q, .slice a4 0 m4] 44]) (fun _ _ => True) () hk (by repeat (first | exact trivial | refine ⟨rfl, ?_⟩)) (hS.sub (by (repeat (first | exact Sub.nil | exact Sub.refl | refine Sub.cons (by (repeat (first | exact At.here | apply At.there))) ?_)))) trivial ?_
                  clear hk hS a
                  rintro i - a w hi hk hS -
                  have hl3 : ([e, lv, m] : List Int).length = 3 := rfl
                  by_cases hil : i < 3
                  · obtain ⟨x, hx⟩ : ∃ x, ([e, lv, m] : List Int)[i]? = some x := ⟨_, List.getElem?_eq_getElem hil⟩
                    (repeat' (first | (show wpListIn _ _ _ _ _ (_ :: _) _ _; first | (refine wx1 ?_; clear hk a; intro a hk) | (refine wx2 ?_ ?_ <;> (intro hp; clear hk a; intro a hk)) | (refine wx3 ?_; clear hk hS a; intro w b hS a hk) | (refine wx4 ?_; clear hk hS a; intro w hS a hk) | (refine wx5 ?_; clear hk hS a; intro w v hS a hk) | fail) | refine wx0 ?_ | (refine s_end hk ?_; clear hk a; intro a hk) | fail))
                    all_goals first
                      | exact done1 hk (h := ⟨⟨_, rfl⟩, hS.nil⟩)
                      | exact ⟨hil, (), hk.sd, hS.sb, trivial⟩
                  · have hii : i = 3 := by omega
                    subst hii
                    have c4' := hS.rdT c4
                    cases q
                    all_goals (repeat' (first | (show wpListIn _ _ _ _ _ (_ :: _) _ _; first | (refine wx1 ?_; clear hk a; intro a hk) | (refine wx2 ?_ ?_ <;> (intro hp; clear hk a; intro a hk)) | (refine wx3 ?_; clear hk hS a; intro w b hS a hk) | (refine wx4 ?_; clear hk hS a; intro w hS a hk) | (refine wx5 ?_; clear hk hS a; intro w v hS a hk) | fail) | refine wx0 ?_ | (refine s_end hk ?_; clear hk a; intro a hk) | fail))
                    all_goals try exact done1 hk (h := ⟨⟨_, rfl⟩, hS.nil⟩)
                    all_goals
                      replace hk := Kn.kp [1, 185, 186, 187] hk
                      refine wp_for 0 (fun i _ => [(187, .int .i64 (i : Int))]) (fun _ _ => []) (fun _ _ => True) () hk (by repeat (first | exact trivial | refine ⟨rfl, ?_⟩)) hS.nil trivial ?_
                      clear hk hS a
                      rintro i - a w hi hk hS -
                      have hii : i = 0 := by omega
                      subst hii
                      (repeat' (first | (show wpListIn _ _ _ _ _ (_ :: _) _ _; first | (refine wx1 ?_; clear hk a; intro a hk) | (refine wx2 ?_ ?_ <;> (intro hp; clear hk a; intro a hk)) | (refine wx3 ?_; clear hk hS a; intro w b hS a hk) | (refine wx4 ?_; clear hk hS a; intro w hS a hk) | (refine wx5 ?_; clear hk hS a; intro w v hS a hk) | fail) | refine wx0 ?_ | (refine s_end hk ?_; clear hk a; intro a hk) | fail))
                      exact done1 hk (h := ⟨⟨_, rfl⟩, hS.nil⟩)

end Go.Proofs.Ytakejjfmbgbedaa
