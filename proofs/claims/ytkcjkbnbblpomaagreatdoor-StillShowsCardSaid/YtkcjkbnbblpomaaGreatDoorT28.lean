/- Layer 9: trees that are the same, by the reference. Layer 9: trees as the document has them. -/
import Derived.Test.YtkcjkbnbblpomaaGreatDoorT17
import Derived.Test.YtkcjkbnbblpomaaGreatDoorT11
import Derived.Test.YtkcjkbnbblpomaaGreatDoorT12
import Derived.Test.YtkcjkbnbblpomaaGreatDoorT13
set_option linter.all false
namespace Go.Proofs.YtkcjkbnbblpomaaGreatDoor
open Go.RowKit
set_option maxRecDepth 100000
attribute [local irreducible] Go.Code.wpIn Go.wpListIn Go.Calls Gives Go.Exit.then Go.Exit.inBlock Done ObxE

abbrev rtreeV (id k : Int) (tag text : ByteArray) (a1 : Option Addr) (n1 m1 : Nat) (a2 : Option Addr) (n2 m2 : Nat) (a3 : Option Addr) (n3 m3 : Nat) (a4 : Option Addr) (n4 m4 : Nat) : Value :=
  .agg #[.int .i64 id, .int .i64 k, .string tag, .string text, .slice a1 n1 m1, .slice a2 n2 m2, .slice a3 n3 m3, .slice a4 n4 m4]
set_option maxHeartbeats 8000000 in
theorem sameR9_any : ∀ (n : Nat) (t u : STree) (h g : SnH) (w0 : World), SizeOf.sizeOf t < n → SFits t → SFits u → SrR w0 t h → SrR w0 u g → Calls Tryz.prog 43 #[snV h, snV g] w0 (Ret fun v w => v = .bool (eqS t u) ∧ St w0 [] w)
  | 0, _, _, _, _, _, hn, _, _, _, _ => by omega
  | n + 1, t, u, h, g, w0, hn, hf, hf', hr, hr' => by
    have ih := sameR9_any n
    obtain ⟨id, k, tag, text, cl, al, sl, kids, a1, m1, a2, m2, a3, m3, a4, m4, H, rfl, rfl, c1, c2, c3, c4, hF⟩ := hr.split
    obtain ⟨id', k', tag', text', cl', al', sl', kids', b1', n1, b2', n2, b3', n3, b4', n4, G, rfl, rfl, g1, g2, g3, g4, hG⟩ := hr'.split
    obtain ⟨l1, l2, l3, l4, l5⟩ := hf
    obtain ⟨l1', l2', l3', l4', l5'⟩ := hf'
    have hHk : H.length = kids.length := hF.1
    have hGk : G.length = kids'.length := hG.1
    show Calls Tryz.prog 43 #[rtreeV id k tag text a1 cl.length m1 a2 al.length m2 a3 sl.length m3 a4 H.length m4, rtreeV id' k' tag' text' b1' cl'.length n1 b2' al'.length n2 b3' sl'.length n3 b4' G.length n4] w0 _
    have hiff := eqS_iff (id := id) (id' := id') (k := k) (k' := k') (tag := tag) (tag' := tag') (text := text) (text' := text') (cl := cl) (cl' := cl') (al := al) (al' := al') (sl := sl) (sl' := sl') (kids := kids) (kids' := kids')
    rw [eqSL_iff] at hiff
    refine enter Tryz.func43 rfl Tryz.ntmps43 rfl (fun a hk => ?_); have hS := St.refl w0
    refine wpIn_seq ?_; refine wpIn_region_lit ?_
    refine st_box hk hS ?_; clear hk hS a; intro w b1 hS a hk
    refine st_box hk hS ?_; clear hk hS a; intro w b2 hS a hk
    (repeat' (first | (show wpListIn _ _ _ _ _ (_ :: _) _ _; first | (refine wx1 ?_; clear hk a; intro a hk) | (refine wx2 ?_ ?_ <;> (intro hp; clear hk a; intro a hk)) | (refine wx3 ?_; clear hk hS a; intro w b hS a hk) | (refine wx4 ?_; clear hk hS a; intro w hS a hk) | (refine wx5 ?_; clear hk hS a; intro w v hS a hk) | fail) | refine wx0 ?_ | (refine s_end hk ?_; clear hk a; intro a hk) | fail))
    rotate_left
    all_goals try (
      refine done1 hk (h := ⟨congrArg Value.bool (eqS_false fun hh => ?_).symm, hS.nil⟩)
      obtain ⟨⟨q1, q2, q3, q4, q5, q6⟩, q9, q10⟩ := hiff.1 hh
      first
        | exact absurd q1 (by assumption)
        | exact absurd q2 (by assumption)
        | exact absurd q3 (by assumption)
        | (have := congrArg List.length q4; omega)
        | (have := congrArg List.length q5; omega)
        | (have := congrArg List.length q6; omega)
        | omega)
    have hlc : cl.length = cl'.length := by omega
    have hla : al.length = al'.length := by omega
    have hls : sl.length = sl'.length := by omega
    have hlk : H.length = G.length := by omega
    have hb1 : k = k' := by assumption
    have hb2 : tag = tag' := by assumption
    have hb4 : text = text' := by assumption
    replace hk := Kn.kp [2, 3, 66, 67] hk
    refine wp_for cl.length (fun i _ => [(67, .int .i64 (i : Int))]) (fun _ _ => [pts b2 [.int .i64 id', .int .i64 k', .string tag', .string text', .slice b1' cl'.length n1, .slice b2' al'.length n2, .slice b3' sl'.length n3, .slice b4' G.length n4] 48, pts b1 [.int .i64 id, .int .i64 k, .string tag, .string text, .slice a1 cl.length m1, .slice a2 al.length m2, .slice a3 sl.length m3, .slice a4 H.length m4] 48]) (fun i _ => ∀ j, j < i → cl[j]? = cl'[j]?) () hk (by repeat (first | exact trivial | refine ⟨rfl, ?_⟩)) hS.sb (fun j hj => by omega) ?_
    clear hk hS a
    rintro i - a w hi hk hS hEq
    by_cases hil : i < cl.length
    · obtain ⟨x, hx⟩ : ∃ x, cl[i]? = some x := ⟨_, List.getElem?_eq_getElem hil⟩
      obtain ⟨y, hy⟩ : ∃ y, cl'[i]? = some y := ⟨_, List.getElem?_eq_getElem (by omega)⟩
      have hv1 := hS.rdT c1
      have hv2 := hS.rdT g1
      (repeat' (first | (show wpListIn _ _ _ _ _ (_ :: _) _ _; first | (refine wx1 ?_; clear hk a; intro a hk) | (refine wx2 ?_ ?_ <;> (intro hp; clear hk a; intro a hk)) | (refine wx3 ?_; clear hk hS a; intro w b hS a hk) | (refine wx4 ?_; clear hk hS a; intro w hS a hk) | (refine wx5 ?_; clear hk hS a; intro w v hS a hk) | fail) | refine wx0 ?_ | (refine s_end hk ?_; clear hk a; intro a hk) | fail))
      refine wp_drawn 10 mixed (by kernel_rfl) hk hS ?_; clear hk hS a
      (repeat' (first | (show ObxE _ _ _ _ _ _ _ _ _ (_ :: _) _ _ _; first | refine ox1 ?_ | (refine ox2 ?_ ?_ <;> intro hp) | fail) | fail))
      all_goals (
        refine obe_nil ⟨rfl, ?_⟩; intro us a w hk hS
        (repeat' (first | (show wpListIn _ _ _ _ _ (_ :: _) _ _; first | (refine wx1 ?_; clear hk a; intro a hk) | (refine wx2 ?_ ?_ <;> (intro hp; clear hk a; intro a hk)) | (refine wx3 ?_; clear hk hS a; intro w b hS a hk) | (refine wx4 ?_; clear hk hS a; intro w hS a hk) | (refine wx5 ?_; clear hk hS a; intro w v hS a hk) | fail) | refine wx0 ?_ | (refine s_end hk ?_; clear hk a; intro a hk) | fail)))
      · have he : x = y := by assumption
        refine ⟨hil, (), hk.sd, hS.sb, fun j hj => ?_⟩
        by_cases e : j = i
        · subst e; rw [hx, hy, he]
        · exact hEq j (by omega)
      · have he : ¬ x = y := by assumption
        refine done1 hk (h := ⟨congrArg Value.bool (eqS_false fun hh => ?_).symm, hS.nil⟩)
        obtain ⟨⟨q1, q2, q3, q4, q5, q6⟩, q9, q10⟩ := hiff.1 hh
        rw [q4, hy] at hx
        exact he (Option.some.inj hx).symm
    · have : i = cl.length := by omega
      subst this
      have hcl : cl = cl' := List.ext_getElem? fun j => by
        by_cases hj : j < cl.length
        · exact hEq j hj
        · rw [List.getElem?_eq_none (by omega), List.getElem?_eq_none (by omega)]
      (repeat' (first | (show wpListIn _ _ _ _ _ (_ :: _) _ _; first | (refine wx1 ?_; clear hk a; intro a hk) | (refine wx2 ?_ ?_ <;> (intro hp; clear hk a; intro a hk)) | (refine wx3 ?_; clear hk hS a; intro w b hS a hk) | (refine wx4 ?_; clear hk hS a; intro w hS a hk) | (refine wx5 ?_; clear hk hS a; intro w v hS a hk) | fail) | refine wx0 ?_ | (refine s_end hk ?_; clear hk a; intro a hk) | fail))
      replace hk := Kn.kp [2, 3, 84, 85] hk
      refine wp_for al.length (fun i _ => [(85, .int .i64 (i : Int))]) (fun _ _ => [pts b2 [.int .i64 id', .int .i64 k', .string tag', .string text', .slice b1' cl'.length n1, .slice b2' al'.length n2, .slice b3' sl'.length n3, .slice b4' G.length n4] 48, pts b1 [.int .i64 id, .int .i64 k, .string tag, .string text, .slice a1 cl.length m1, .slice a2 al.length m2, .slice a3 sl.length m3, .slice a4 H.length m4] 48]) (fun i _ => ∀ j, j < i → al[j]? = al'[j]?) () hk (by repeat (first | exact trivial | refine ⟨rfl, ?_⟩)) hS.sb (fun j hj => by omega) ?_
      clear hk hS a
      rintro i - a w hi hk hS hEq1
      by_cases hil : i < al.length
      · obtain ⟨⟨nm, val⟩, hx⟩ : ∃ x, al[i]? = some x := ⟨_, List.getElem?_eq_getElem hil⟩
        obtain ⟨⟨nm', val'⟩, hy⟩ : ∃ y, al'[i]? = some y := ⟨_, List.getElem?_eq_getElem (by omega)⟩
        have hv1 := hS.rdT c2
        have hv2 := hS.rdT g2
        (repeat' (first | (show wpListIn _ _ _ _ _ (_ :: _) _ _; first | (refine wx1 ?_; clear hk a; intro a hk) | (refine wx2 ?_ ?_ <;> (intro hp; clear hk a; intro a hk)) | (refine wx3 ?_; clear hk hS a; intro w b hS a hk) | (refine wx4 ?_; clear hk hS a; intro w hS a hk) | (refine wx5 ?_; clear hk hS a; intro w v hS a hk) | fail) | refine wx0 ?_ | (refine s_end hk ?_; clear hk a; intro a hk) | fail))
        refine wp_drawn 10 mixed (by kernel_rfl) hk hS ?_; clear hk hS a
        (repeat' (first | (show ObxE _ _ _ _ _ _ _ _ _ (_ :: _) _ _ _; first | refine ox1 ?_ | (refine ox2 ?_ ?_ <;> intro hp) | fail) | fail))
        all_goals (
          refine obe_nil ⟨rfl, ?_⟩; intro us a w hk hS
          (repeat' (first | (show wpListIn _ _ _ _ _ (_ :: _) _ _; first | (refine wx1 ?_; clear hk a; intro a hk) | (refine wx2 ?_ ?_ <;> (intro hp; clear hk a; intro a hk)) | (refine wx3 ?_; clear hk hS a; intro w b hS a hk) | (refine wx4 ?_; clear hk hS a; intro w hS a hk) | (refine wx5 ?_; clear hk hS a; intro w v hS a hk) | fail) | refine wx0 ?_ | (refine s_end hk ?_; clear hk a; intro a hk) | fail)))
        · have he : (nm, val) = (nm', val') := by
            have := eqC_enc (α := PrS) (x := (nm, val)) (y := (nm', val')) (b := true) (by assumption)
            rwa [if_pos rfl] at this
          refine ⟨hil, (), hk.sd, hS.sb, fun j hj => ?_⟩
          by_cases e : j = i
          · subst e; rw [hx, hy, he]
          · exact hEq1 j (by omega)
        · have he : ¬ (nm, val) = (nm', val') := by
            have := eqC_enc (α := PrS) (x := (nm, val)) (y := (nm', val')) (b := false) (by assumption)
            rwa [if_neg (by decide)] at this
          refine done1 hk (h := ⟨congrArg Value.bool (eqS_false fun hh => ?_).symm, hS.nil⟩)
          obtain ⟨⟨q1, q2, q3, q4, q5, q6⟩, q9, q10⟩ := hiff.1 hh
          rw [q5, hy] at hx
          exact he (Option.some.inj hx).symm
      · have : i = al.length := by omega
        subst this
        have hcS : al = al' := List.ext_getElem? fun j => by
          by_cases hj : j < al.length
          · exact hEq1 j hj
          · rw [List.getElem?_eq_none (by omega), List.getElem?_eq_none (by omega)]
        (repeat' (first | (show wpListIn _ _ _ _ _ (_ :: _) _ _; first | (refine wx1 ?_; clear hk a; intro a hk) | (refine wx2 ?_ ?_ <;> (intro hp; clear hk a; intro a hk)) | (refine wx3 ?_; clear hk hS a; intro w b hS a hk) | (refine wx4 ?_; clear hk hS a; intro w hS a hk) | (refine wx5 ?_; clear hk hS a; intro w v hS a hk) | fail) | refine wx0 ?_ | (refine s_end hk ?_; clear hk a; intro a hk) | fail))
        replace hk := Kn.kp [2, 3, 102, 103] hk
        refine wp_for sl.length (fun i _ => [(103, .int .i64 (i : Int))]) (fun _ _ => [pts b2 [.int .i64 id', .int .i64 k', .string tag', .string text', .slice b1' cl'.length n1, .slice b2' al'.length n2, .slice b3' sl'.length n3, .slice b4' G.length n4] 48, pts b1 [.int .i64 id, .int .i64 k, .string tag, .string text, .slice a1 cl.length m1, .slice a2 al.length m2, .slice a3 sl.length m3, .slice a4 H.length m4] 48]) (fun i _ => ∀ j, j < i → sl[j]? = sl'[j]?) () hk (by repeat (first | exact trivial | refine ⟨rfl, ?_⟩)) hS.sb (fun j hj => by omega) ?_
        clear hk hS a
        rintro i - a w hi hk hS hEq2
        by_cases hil : i < sl.length
        · obtain ⟨⟨nm, val⟩, hx⟩ : ∃ x, sl[i]? = some x := ⟨_, List.getElem?_eq_getElem hil⟩
          obtain ⟨⟨nm', val'⟩, hy⟩ : ∃ y, sl'[i]? = some y := ⟨_, List.getElem?_eq_getElem (by omega)⟩
          have hv1 := hS.rdT c3
          have hv2 := hS.rdT g3
          (repeat' (first | (show wpListIn _ _ _ _ _ (_ :: _) _ _; first | (refine wx1 ?_; clear hk a; intro a hk) | (refine wx2 ?_ ?_ <;> (intro hp; clear hk a; intro a hk)) | (refine wx3 ?_; clear hk hS a; intro w b hS a hk) | (refine wx4 ?_; clear hk hS a; intro w hS a hk) | (refine wx5 ?_; clear hk hS a; intro w v hS a hk) | fail) | refine wx0 ?_ | (refine s_end hk ?_; clear hk a; intro a hk) | fail))
          refine wp_drawn 10 mixed (by kernel_rfl) hk hS ?_; clear hk hS a
          (repeat' (first | (show ObxE _ _ _ _ _ _ _ _ _ (_ :: _) _ _ _; first | refine ox1 ?_ | (refine ox2 ?_ ?_ <;> intro hp) | fail) | fail))
          all_goals (
            refine obe_nil ⟨rfl, ?_⟩; intro us a w hk hS
            (repeat' (first | (show wpListIn _ _ _ _ _ (_ :: _) _ _; first | (refine wx1 ?_; clear hk a; intro a hk) | (refine wx2 ?_ ?_ <;> (intro hp; clear hk a; intro a hk)) | (refine wx3 ?_; clear hk hS a; intro w b hS a hk) | (refine wx4 ?_; clear hk hS a; intro w hS a hk) | (refine wx5 ?_; clear hk hS a; intro w v hS a hk) | fail) | refine wx0 ?_ | (refine s_end hk ?_; clear hk a; intro a hk) | fail)))
          · have he : (nm, val) = (nm', val') := by
              have := eqC_enc (α := PrI) (x := (nm, val)) (y := (nm', val')) (b := true) (by assumption)
              rwa [if_pos rfl] at this
            refine ⟨hil, (), hk.sd, hS.sb, fun j hj => ?_⟩
            by_cases e : j = i
            · subst e; rw [hx, hy, he]
            · exact hEq2 j (by omega)
          · have he : ¬ (nm, val) = (nm', val') := by
              have := eqC_enc (α := PrI) (x := (nm, val)) (y := (nm', val')) (b := false) (by assumption)
              rwa [if_neg (by decide)] at this
            refine done1 hk (h := ⟨congrArg Value.bool (eqS_false fun hh => ?_).symm, hS.nil⟩)
            obtain ⟨⟨q1, q2, q3, q4, q5, q6⟩, q9, q10⟩ := hiff.1 hh
            rw [q6, hy] at hx
            exact he (Option.some.inj hx).symm
        · have : i = sl.length := by omega
          subst this
          have hcI : sl = sl' := List.ext_getElem? fun j => by
            by_cases hj : j < sl.length
            · exact hEq2 j hj
            · rw [List.getElem?_eq_none (by omega), List.getElem?_eq_none (by omega)]
          (repeat' (first | (show wpListIn _ _ _ _ _ (_ :: _) _ _; first | (refine wx1 ?_; clear hk a; intro a hk) | (refine wx2 ?_ ?_ <;> (intro hp; clear hk a; intro a hk)) | (refine wx3 ?_; clear hk hS a; intro w b hS a hk) | (refine wx4 ?_; clear hk hS a; intro w hS a hk) | (refine wx5 ?_; clear hk hS a; intro w v hS a hk) | fail) | refine wx0 ?_ | (refine s_end hk ?_; clear hk a; intro a hk) | fail))
          replace hk := Kn.kp [2, 3, 120, 121] hk
          refine wp_for H.length (fun i _ => [(121, .int .i64 (i : Int))]) (fun _ _ => [pts b2 [.int .i64 id', .int .i64 k', .string tag', .string text', .slice b1' cl'.length n1, .slice b2' al'.length n2, .slice b3' sl'.length n3, .slice b4' G.length n4] 48, pts b1 [.int .i64 id, .int .i64 k, .string tag, .string text, .slice a1 cl.length m1, .slice a2 al.length m2, .slice a3 sl.length m3, .slice a4 H.length m4] 48]) (fun i _ => ∀ (j : Nat) (t u : STree), j < i → kids[j]? = some t → kids'[j]? = some u → eqS t u = true) () hk (by repeat (first | exact trivial | refine ⟨rfl, ?_⟩)) hS.sb (fun j t u hj => by omega) ?_
          clear hk hS a
          rintro i - a w hi hk hS hEq3
          by_cases hil : i < H.length
          · obtain ⟨tk, htk⟩ : ∃ t, kids[i]? = some t := ⟨_, List.getElem?_eq_getElem (by omega)⟩
            obtain ⟨uk, huk⟩ : ∃ t, kids'[i]? = some t := ⟨_, List.getElem?_eq_getElem (by omega)⟩
            obtain ⟨hd0, hx⟩ : ∃ x, H[i]? = some x := ⟨_, List.getElem?_eq_getElem hil⟩
            obtain ⟨gd0, hy⟩ : ∃ x, G[i]? = some x := ⟨_, List.getElem?_eq_getElem (by omega)⟩
            have hTr := hF.2 i tk hd0 htk hx
            have hTu := hG.2 i uk gd0 huk hy
            have hfk := l5 tk (List.mem_of_getElem? htk)
            have hfu := l5' uk (List.mem_of_getElem? huk)
            have hlt : SizeOf.sizeOf tk < n := by have := skid_lt (id := id) (k := k) (tag := tag) (text := text) (cl := cl) (at_ := al) (st := sl) (List.mem_of_getElem? htk); omega
            obtain ⟨id0, k0, tag0, text0, ⟨x1, x2, x3⟩, ⟨y1, y2, y3⟩, ⟨z1, z2, z3⟩, ⟨u1, u2, u3⟩⟩ := hd0
            obtain ⟨id9, k9, tag9, text9, ⟨x19, x29, x39⟩, ⟨y19, y29, y39⟩, ⟨z19, z29, z39⟩, ⟨u19, u29, u39⟩⟩ := gd0
            have hcall := fun w0 h1 h2 => ih tk uk (id0, k0, tag0, text0, ⟨x1, x2, x3⟩, ⟨y1, y2, y3⟩, ⟨z1, z2, z3⟩, ⟨u1, u2, u3⟩) (id9, k9, tag9, text9, ⟨x19, x29, x39⟩, ⟨y19, y29, y39⟩, ⟨z19, z29, z39⟩, ⟨u19, u29, u39⟩) w0 hlt hfk hfu h1 h2
            have hv1 := hS.rdT c4
            have hv2 := hS.rdT g4
            cases hs : eqS tk uk with
            | true =>
              rw [hs] at hcall
              (repeat' (first | (show wpListIn _ _ _ _ _ (_ :: _) _ _; first | (refine wx1 ?_; clear hk a; intro a hk) | (refine wx2 ?_ ?_ <;> (intro hp; clear hk a; intro a hk)) | (refine wx3 ?_; clear hk hS a; intro w b hS a hk) | (refine wx4 ?_; clear hk hS a; intro w hS a hk) | (refine wx5 ?_; clear hk hS a; intro w v hS a hk) | fail) | refine wx0 ?_ | (refine s_end hk ?_; clear hk a; intro a hk) | fail))
              refine wp_drawn 12 mixed (by kernel_rfl) hk hS ?_; clear hk hS a
              (repeat' (first | (show ObxE _ _ _ _ _ _ _ _ _ (_ :: _) _ _ _; first | refine ox1 ?_ | (refine ox2 ?_ ?_ <;> intro hp) | fail) | fail))
              refine' obe_val (fun us a w hk hd hS => ?_) ?_; rotate_left; focus (have hk := Kn.vw hk (by repeat (first | exact VW.nil | apply VW.val rfl | apply VW.base rfl rfl | apply VW.res rfl | apply VW.upd rfl | apply VW.cpy rfl | apply VW.dep rfl | apply VW.fn rfl | apply VW.lnd rfl | apply VW.tak rfl)); exact g_callO hk (hf := by kernel_rfl) (hc := hcall _ (hS.rdSr hTr) (hS.rdSr hTu)) (h := fun _ _ h => h))
              (repeat' (first | (show ObxE _ _ _ _ _ _ _ _ _ (_ :: _) _ _ _; first | refine ox1 ?_ | (refine ox2 ?_ ?_ <;> intro hp) | fail) | fail))
              refine obe_nil ⟨rfl, ?_⟩; intro us a w hk hS
              (repeat' (first | (show wpListIn _ _ _ _ _ (_ :: _) _ _; first | (refine wx1 ?_; clear hk a; intro a hk) | (refine wx2 ?_ ?_ <;> (intro hp; clear hk a; intro a hk)) | (refine wx3 ?_; clear hk hS a; intro w b hS a hk) | (refine wx4 ?_; clear hk hS a; intro w hS a hk) | (refine wx5 ?_; clear hk hS a; intro w v hS a hk) | fail) | refine wx0 ?_ | (refine s_end hk ?_; clear hk a; intro a hk) | fail))
              refine ⟨hil, (), hk.sd, hS.sb, fun j t u hj ht hu => ?_⟩
              by_cases e : j = i
              · subst e
                rw [htk] at ht
                rw [huk] at hu
                cases ht
                cases hu
                exact hs
              · exact hEq3 j t u (by omega) ht hu
            | false =>
              rw [hs] at hcall
              (repeat' (first | (show wpListIn _ _ _ _ _ (_ :: _) _ _; first | (refine wx1 ?_; clear hk a; intro a hk) | (refine wx2 ?_ ?_ <;> (intro hp; clear hk a; intro a hk)) | (refine wx3 ?_; clear hk hS a; intro w b hS a hk) | (refine wx4 ?_; clear hk hS a; intro w hS a hk) | (refine wx5 ?_; clear hk hS a; intro w v hS a hk) | fail) | refine wx0 ?_ | (refine s_end hk ?_; clear hk a; intro a hk) | fail))
              refine wp_drawn 12 mixed (by kernel_rfl) hk hS ?_; clear hk hS a
              (repeat' (first | (show ObxE _ _ _ _ _ _ _ _ _ (_ :: _) _ _ _; first | refine ox1 ?_ | (refine ox2 ?_ ?_ <;> intro hp) | fail) | fail))
              refine' obe_val (fun us a w hk hd hS => ?_) ?_; rotate_left; focus (have hk := Kn.vw hk (by repeat (first | exact VW.nil | apply VW.val rfl | apply VW.base rfl rfl | apply VW.res rfl | apply VW.upd rfl | apply VW.cpy rfl | apply VW.dep rfl | apply VW.fn rfl | apply VW.lnd rfl | apply VW.tak rfl)); exact g_callO hk (hf := by kernel_rfl) (hc := hcall _ (hS.rdSr hTr) (hS.rdSr hTu)) (h := fun _ _ h => h))
              (repeat' (first | (show ObxE _ _ _ _ _ _ _ _ _ (_ :: _) _ _ _; first | refine ox1 ?_ | (refine ox2 ?_ ?_ <;> intro hp) | fail) | fail))
              refine obe_nil ⟨rfl, ?_⟩; intro us a w hk hS
              (repeat' (first | (show wpListIn _ _ _ _ _ (_ :: _) _ _; first | (refine wx1 ?_; clear hk a; intro a hk) | (refine wx2 ?_ ?_ <;> (intro hp; clear hk a; intro a hk)) | (refine wx3 ?_; clear hk hS a; intro w b hS a hk) | (refine wx4 ?_; clear hk hS a; intro w hS a hk) | (refine wx5 ?_; clear hk hS a; intro w v hS a hk) | fail) | refine wx0 ?_ | (refine s_end hk ?_; clear hk a; intro a hk) | fail))
              refine done1 hk (h := ⟨congrArg Value.bool (eqS_false fun hh => ?_).symm, hS.nil⟩)
              obtain ⟨⟨q1, q2, q3, q4, q5, q6⟩, q9, q10⟩ := hiff.1 hh
              have := q10 i tk uk htk huk
              rw [hs] at this
              cases this
          · have : i = H.length := by omega
            subst this
            (repeat' (first | (show wpListIn _ _ _ _ _ (_ :: _) _ _; first | (refine wx1 ?_; clear hk a; intro a hk) | (refine wx2 ?_ ?_ <;> (intro hp; clear hk a; intro a hk)) | (refine wx3 ?_; clear hk hS a; intro w b hS a hk) | (refine wx4 ?_; clear hk hS a; intro w hS a hk) | (refine wx5 ?_; clear hk hS a; intro w v hS a hk) | fail) | refine wx0 ?_ | (refine s_end hk ?_; clear hk a; intro a hk) | fail))
            exact done1 hk (h := ⟨congrArg Value.bool (hiff.2 ⟨⟨hb1, hb2, hb4, hcl, hcS, hcI⟩, by omega, fun j t u ht hu => hEq3 j t u (by have := lt_of_get ht; omega) ht hu⟩).symm, hS.nil⟩)
end Go.Proofs.YtkcjkbnbblpomaaGreatDoor
namespace Go.Proofs.YtkcjkbnbblpomaaGreatDoor
open Go.RowKit
set_option maxRecDepth 100000
attribute [local irreducible] Go.Code.wpIn Go.wpListIn Go.Calls Gives Go.Exit.then Go.Exit.inBlock Done ObxE

set_option maxHeartbeats 4000000 in
theorem told9_any : ∀ (n : Nat) (t : STree) (h : SnH) (w0 : World), SizeOf.sizeOf t < n → SFits t → SrR w0 t h → Calls Tryz.prog 18 #[snV h] w0 (Ret fun v w => St w0 [streeH t v] w)
  | 0, _, _, _, hn, _, _ => by omega
  | n + 1, t, h, w0, hn, hf, hr => by
    have ih := told9_any n
    obtain ⟨id, k, tag, text, cl, al, sl, kids, a1, m1, a2, m2, a3, m3, a4, m4, H, rfl, rfl, c1, c2, c3, c4, hF⟩ := hr.split
    obtain ⟨l1, l2, l3, l4, l5⟩ := hf
    have hHk : H.length = kids.length := hF.1
    show Calls Tryz.prog 18 #[.agg #[.int .i64 id, .int .i64 k, .string tag, .string text, .slice a1 cl.length m1, .slice a2 al.length m2, .slice a3 sl.length m3, .slice a4 H.length m4]] w0 _
    refine enter Tryz.func18 rfl Tryz.ntmps18 rfl (fun a hk => ?_); have hS := St.refl w0
    (repeat' (first | (show wpListIn _ _ _ _ _ (_ :: _) _ _; first | (refine wx1 ?_; clear hk a; intro a hk) | (refine wx2 ?_ ?_ <;> (intro hp; clear hk a; intro a hk)) | (refine wx3 ?_; clear hk hS a; intro w b hS a hk) | (refine wx4 ?_; clear hk hS a; intro w hS a hk) | (refine wx5 ?_; clear hk hS a; intro w v hS a hk) | fail) | refine wx0 ?_ | (refine s_end hk ?_; clear hk a; intro a hk) | fail))
    rename_i b1
    rename Nat => b2
    refine wp_drawn 14 mixed (by kernel_rfl) hk hS ?_; clear hk hS a
    (repeat' (first | (show ObxE _ _ _ _ _ _ _ _ _ (_ :: _) _ _ _; first | refine ox1 ?_ | (refine ox2 ?_ ?_ <;> intro hp) | fail) | fail))
    refine' obe_res (fun us a w hk hd hS => ?_) ?_; rotate_left; focus (have hk := Kn.vw hk (by repeat (first | exact VW.nil | apply VW.val rfl | apply VW.base rfl rfl | apply VW.res rfl | apply VW.upd rfl | apply VW.cpy rfl | apply VW.dep rfl | apply VW.fn rfl | apply VW.lnd rfl | apply VW.tak rfl)); exact v_bs0 (hT := eT rfl) (hE := zT rfl))
    (repeat' (first | (show ObxE _ _ _ _ _ _ _ _ _ (_ :: _) _ _ _; first | refine ox1 ?_ | (refine ox2 ?_ ?_ <;> intro hp) | fail) | fail))
    refine' obe_res (fun us a w hk hd hS => ?_) ?_; rotate_left; focus (have hk := Kn.vw hk (by repeat (first | exact VW.nil | apply VW.val rfl | apply VW.base rfl rfl | apply VW.res rfl | apply VW.upd rfl | apply VW.cpy rfl | apply VW.dep rfl | apply VW.fn rfl | apply VW.lnd rfl | apply VW.tak rfl)); exact v_appR (ys := cl) hk hd.1 (hT := eT rfl) (hTx := eT rfl) (hE := zT rfl) (hz := oT rfl) (hzs := rfl) (hs := hS.rdT c1) (hby := bT rfl) (hbytes := by omega) (h63 := by simp only [maxLen]; omega))
    (repeat' (first | (show ObxE _ _ _ _ _ _ _ _ _ (_ :: _) _ _ _; first | refine ox1 ?_ | (refine ox2 ?_ ?_ <;> intro hp) | fail) | fail))
    refine' obe_fn [11] (fun l => .agg #[.int .i64 id, .int .i64 k, .string tag, .string text, l.getD 0 undef, .slice none 0 0, .slice none 0 0, .slice none 0 0]) (fun us a w hk hd hS => ?_) ?_ (by intro k e; simp only [List.mem_cons, List.not_mem_nil, or_false] at e; rcases e with rfl; exact ⟨21, _, rfl, rfl⟩)
    · have hk := Kn.vw hk (by repeat (first | exact VW.nil | apply VW.val rfl | apply VW.base rfl rfl | apply VW.res rfl | apply VW.upd rfl | apply VW.cpy rfl | apply VW.dep rfl | apply VW.fn rfl | apply VW.lnd rfl | apply VW.tak rfl))
      have h1 : (appH 9 cl (us 11)).rd w := hd.2.2.2.2.1
      obtain ⟨_, _, e1, _⟩ := (appH.rd h1).shape
      simp only [Nat.zero_add, Nat.reduceAdd] at hk
      simp only [List.map, List.getD_cons_zero]
      rw [e1] at hk ⊢
      exact g_build hk ⟨rfl, St.refl w⟩ (fsT rfl) (oT rfl)
    refine' obe_res (fun us a w hk hd hS => ?_) ?_; rotate_left; focus (have hk := Kn.vw hk (by repeat (first | exact VW.nil | apply VW.val rfl | apply VW.base rfl rfl | apply VW.res rfl | apply VW.upd rfl | apply VW.cpy rfl | apply VW.dep rfl | apply VW.fn rfl | apply VW.lnd rfl | apply VW.tak rfl)); exact v_alloc hk (oT rfl))
    refine obe_nil ⟨rfl, ?_⟩; intro us a w hk hS
    simp only [resE, List.cons_append, List.nil_append, Nat.zero_add, Nat.reduceAdd] at hS
    obtain ⟨b3, hb3, hS1⟩ := hS.ptv (by (repeat (first | exact At.here | apply At.there))); replace hS := hS1; clear hS1
    replace hk := Kn.kp [1, 2, 3, 22] hk
    simp only [HV.of, List.map, List.getD_cons_zero, Nat.zero_add, Nat.reduceAdd] at hk
    generalize us 11 = v21 at hS hk
    rw [hb3] at hk
    obtain ⟨a21, m21, rfl, _⟩ := (appH.rd (hS.rd (A := appH 9 cl v21) (by (repeat (first | exact At.here | apply At.there))))).shape
    (repeat' (first | (show wpListIn _ _ _ _ _ (_ :: _) _ _; first | (refine wx1 ?_; clear hk a; intro a hk) | (refine wx2 ?_ ?_ <;> (intro hp; clear hk a; intro a hk)) | (refine wx3 ?_; clear hk hS a; intro w b hS a hk) | (refine wx4 ?_; clear hk hS a; intro w hS a hk) | (refine wx5 ?_; clear hk hS a; intro w v hS a hk) | fail) | refine wx0 ?_ | (refine s_end hk ?_; clear hk a; intro a hk) | fail))
    replace hS := hS.nilT 97 PrS
    replace hk := Kn.kp [1, 2, 3, 24, 25, 26] hk
    refine wp_for al.length (fun i _ => [(26, .int .i64 (i : Int))]) (fun i v => [OwT 97 (al.take i) (.slice v.1 i v.2), pts b3 [.int .i64 id, .int .i64 k, .string tag, .string text, .slice a21 cl.length m21, .slice v.1 i v.2, .slice none 0 0, .slice none 0 0] 48, appH 9 cl (.slice a21 cl.length m21), pts b2 [.int .i64 0, .int .i64 0, .string ⟨#[]⟩, .string ⟨#[]⟩, .slice none 0 0, .slice none 0 0, .slice none 0 0, .slice none 0 0] 48, pts b1 [.int .i64 id, .int .i64 k, .string tag, .string text, .slice a1 cl.length m1, .slice a2 al.length m2, .slice a3 sl.length m3, .slice a4 H.length m4] 39]) (fun _ _ => True) ((none, 0) : Option Addr × Nat) hk (by repeat (first | exact trivial | refine ⟨rfl, ?_⟩)) hS.sb trivial ?_
    clear hk hS a
    rintro i ⟨ao, c⟩ a w hi hk hS -
    by_cases hil : i < al.length
    · obtain ⟨⟨nm, val⟩, hx⟩ : ∃ x, al[i]? = some x := ⟨_, List.getElem?_eq_getElem hil⟩
      have hst : al.take (i + 1) = al.take i ++ [(nm, val)] := take_snoc hx
      have htl : (al.take i).length = i := by rw [List.length_take]; omega
      have hv1 := hS.rdT c2
      simp only at hS hk
      (repeat' (first | (show wpListIn _ _ _ _ _ (_ :: _) _ _; first | (refine wx1 ?_; clear hk a; intro a hk) | (refine wx2 ?_ ?_ <;> (intro hp; clear hk a; intro a hk)) | (refine wx3 ?_; clear hk hS a; intro w b hS a hk) | (refine wx4 ?_; clear hk hS a; intro w hS a hk) | (refine wx5 ?_; clear hk hS a; intro w v hS a hk) | fail) | refine wx0 ?_ | (refine s_end hk ?_; clear hk a; intro a hk) | fail))
      have htl1 : (al.take (i + 1)).length = i + 1 := by rw [List.length_take]; omega
      refine sg hk (g_bsT (xs := [((nm, val) : ByteArray × ByteArray)]) (m := 0) hk hS ?_ (hT := eT rfl) (hE := zT rfl) (hz := oT rfl)); clear hk hS a; intro w ve hS a hk
      (repeat' (first | (show wpListIn _ _ _ _ _ (_ :: _) _ _; first | (refine wx1 ?_; clear hk a; intro a hk) | (refine wx2 ?_ ?_ <;> (intro hp; clear hk a; intro a hk)) | (refine wx3 ?_; clear hk hS a; intro w b hS a hk) | (refine wx4 ?_; clear hk hS a; intro w hS a hk) | (refine wx5 ?_; clear hk hS a; intro w v hS a hk) | fail) | refine wx0 ?_ | (refine s_end hk ?_; clear hk a; intro a hk) | fail))
      rw [← hst] at hS
      rename Value => vn
      obtain ⟨aovn, cvn, hshp, _⟩ := (OwT.rd (hS.rd (A := OwT 97 _ vn) (by (repeat (first | exact At.here | apply At.there))))).shape; subst hshp
      rw [htl1] at hS hk
      (repeat' (first | (show wpListIn _ _ _ _ _ (_ :: _) _ _; first | (refine wx1 ?_; clear hk a; intro a hk) | (refine wx2 ?_ ?_ <;> (intro hp; clear hk a; intro a hk)) | (refine wx3 ?_; clear hk hS a; intro w b hS a hk) | (refine wx4 ?_; clear hk hS a; intro w hS a hk) | (refine wx5 ?_; clear hk hS a; intro w v hS a hk) | fail) | refine wx0 ?_ | (refine s_end hk ?_; clear hk a; intro a hk) | fail))
      exact ⟨hil, (aovn, cvn), hk.sd, hS.sb, trivial⟩
    · have : i = al.length := by omega
      subst this
      rw [List.take_length] at hS
      simp only at hS hk
      have c3' := hS.rdT c3
      (repeat' (first | (show wpListIn _ _ _ _ _ (_ :: _) _ _; first | (refine wx1 ?_; clear hk a; intro a hk) | (refine wx2 ?_ ?_ <;> (intro hp; clear hk a; intro a hk)) | (refine wx3 ?_; clear hk hS a; intro w b hS a hk) | (refine wx4 ?_; clear hk hS a; intro w hS a hk) | (refine wx5 ?_; clear hk hS a; intro w v hS a hk) | fail) | refine wx0 ?_ | (refine s_end hk ?_; clear hk a; intro a hk) | fail))
      replace hS := hS.nilT 105 PrI
      replace hk := Kn.kp [1, 2, 3, 38, 39, 40] hk
      refine wp_for sl.length (fun i _ => [(40, .int .i64 (i : Int))]) (fun i v => [OwT 105 (sl.take i) (.slice v.1 i v.2), pts b3 [.int .i64 id, .int .i64 k, .string tag, .string text, .slice a21 cl.length m21, .slice ao al.length c, .slice v.1 i v.2, .slice none 0 0] 48, OwT 97 al (.slice ao al.length c), appH 9 cl (.slice a21 cl.length m21), pts b2 [.int .i64 0, .int .i64 0, .string ⟨#[]⟩, .string ⟨#[]⟩, .slice none 0 0, .slice none 0 0, .slice none 0 0, .slice none 0 0] 48, pts b1 [.int .i64 id, .int .i64 k, .string tag, .string text, .slice a1 cl.length m1, .slice a2 al.length m2, .slice a3 sl.length m3, .slice a4 H.length m4] 39]) (fun _ _ => True) ((none, 0) : Option Addr × Nat) hk (by repeat (first | exact trivial | refine ⟨rfl, ?_⟩)) hS.sb trivial ?_
      clear hk hS a c3'
      rintro i ⟨bo, f⟩ a w hi hk hS -
      by_cases hil : i < sl.length
      · obtain ⟨⟨nm, val⟩, hx⟩ : ∃ x, sl[i]? = some x := ⟨_, List.getElem?_eq_getElem hil⟩
        have hst : sl.take (i + 1) = sl.take i ++ [(nm, val)] := take_snoc hx
        have htl : (sl.take i).length = i := by rw [List.length_take]; omega
        have hv1 := hS.rdT c3
        simp only at hS hk
        (repeat' (first | (show wpListIn _ _ _ _ _ (_ :: _) _ _; first | (refine wx1 ?_; clear hk a; intro a hk) | (refine wx2 ?_ ?_ <;> (intro hp; clear hk a; intro a hk)) | (refine wx3 ?_; clear hk hS a; intro w b hS a hk) | (refine wx4 ?_; clear hk hS a; intro w hS a hk) | (refine wx5 ?_; clear hk hS a; intro w v hS a hk) | fail) | refine wx0 ?_ | (refine s_end hk ?_; clear hk a; intro a hk) | fail))
        have htl1 : (sl.take (i + 1)).length = i + 1 := by rw [List.length_take]; omega
        refine sg hk (g_bsT (xs := [((nm, val) : ByteArray × Int)]) (m := 0) hk hS ?_ (hT := eT rfl) (hE := zT rfl) (hz := oT rfl)); clear hk hS a; intro w ve hS a hk
        (repeat' (first | (show wpListIn _ _ _ _ _ (_ :: _) _ _; first | (refine wx1 ?_; clear hk a; intro a hk) | (refine wx2 ?_ ?_ <;> (intro hp; clear hk a; intro a hk)) | (refine wx3 ?_; clear hk hS a; intro w b hS a hk) | (refine wx4 ?_; clear hk hS a; intro w hS a hk) | (refine wx5 ?_; clear hk hS a; intro w v hS a hk) | fail) | refine wx0 ?_ | (refine s_end hk ?_; clear hk a; intro a hk) | fail))
        rw [← hst] at hS
        rename Value => vn
        obtain ⟨aovn, cvn, hshp, _⟩ := (OwT.rd (hS.rd (A := OwT 105 _ vn) (by (repeat (first | exact At.here | apply At.there))))).shape; subst hshp
        rw [htl1] at hS hk
        (repeat' (first | (show wpListIn _ _ _ _ _ (_ :: _) _ _; first | (refine wx1 ?_; clear hk a; intro a hk) | (refine wx2 ?_ ?_ <;> (intro hp; clear hk a; intro a hk)) | (refine wx3 ?_; clear hk hS a; intro w b hS a hk) | (refine wx4 ?_; clear hk hS a; intro w hS a hk) | (refine wx5 ?_; clear hk hS a; intro w v hS a hk) | fail) | refine wx0 ?_ | (refine s_end hk ?_; clear hk a; intro a hk) | fail))
        exact ⟨hil, (aovn, cvn), hk.sd, hS.sb, trivial⟩
      · have : i = sl.length := by omega
        subst this
        rw [List.take_length] at hS
        simp only at hS hk
        have c4' := hS.rdT c4
        have hF' := hS.rdSo hF
        (repeat' (first | (show wpListIn _ _ _ _ _ (_ :: _) _ _; first | (refine wx1 ?_; clear hk a; intro a hk) | (refine wx2 ?_ ?_ <;> (intro hp; clear hk a; intro a hk)) | (refine wx3 ?_; clear hk hS a; intro w b hS a hk) | (refine wx4 ?_; clear hk hS a; intro w hS a hk) | (refine wx5 ?_; clear hk hS a; intro w v hS a hk) | fail) | refine wx0 ?_ | (refine s_end hk ?_; clear hk a; intro a hk) | fail))
        replace hS := sforR.nil (hS.nilT 48 SnH)
        replace hk := Kn.kp [2, 3, 52, 53, 54] hk
        refine wp_for H.length (fun i _ => [(54, .int .i64 (i : Int))]) (fun i v => [sforR (kids.take i) (v.2 : List SnH), OwT 48 v.2 (.slice v.1.1 i v.1.2), pts b3 [.int .i64 id, .int .i64 k, .string tag, .string text, .slice a21 cl.length m21, .slice ao al.length c, .slice bo sl.length f, .slice v.1.1 i v.1.2] 48, OwT 105 sl (.slice bo sl.length f), OwT 97 al (.slice ao al.length c), appH 9 cl (.slice a21 cl.length m21), pts b2 [.int .i64 0, .int .i64 0, .string ⟨#[]⟩, .string ⟨#[]⟩, .slice none 0 0, .slice none 0 0, .slice none 0 0, .slice none 0 0] 48, pts b1 [.int .i64 id, .int .i64 k, .string tag, .string text, .slice a1 cl.length m1, .slice a2 al.length m2, .slice a3 sl.length m3, .slice a4 H.length m4] 39]) (fun _ _ => True) (((none, 0), []) : (Option Addr × Nat) × List SnH) hk (by repeat (first | exact trivial | refine ⟨rfl, ?_⟩)) hS.sb trivial ?_
        clear hk hS a
        rintro j ⟨⟨ak, ck⟩, H'⟩ a w hj hk hS -
        have hFH := hS.soR .here
        have hkl : (kids.take j).length = j := by rw [List.length_take, ← hF.1]; omega
        have hHl : H'.length = j := by rw [hFH.1, hkl]
        by_cases hjl : j < H.length
        · obtain ⟨tk, htk⟩ : ∃ t, kids[j]? = some t := ⟨_, List.getElem?_eq_getElem (by rw [← hF.1]; exact hjl)⟩
          obtain ⟨hd0, hx⟩ : ∃ x, H[j]? = some x := ⟨_, List.getElem?_eq_getElem hjl⟩
          have hTr := hF.2 j tk hd0 htk hx
          have hfk := l5 tk (List.mem_of_getElem? htk)
          have hlt : SizeOf.sizeOf tk < n := by have := skid_lt (id := id) (k := k) (tag := tag) (text := text) (cl := cl) (at_ := al) (st := sl) (List.mem_of_getElem? htk); omega
          have hst : kids.take (j + 1) = kids.take j ++ [tk] := take_snoc htk
          have c4'' := hS.rdT c4
          simp only at hS hk
          obtain ⟨id', k', tag', text', ⟨x1, x2, x3⟩, ⟨y1, y2, y3⟩, ⟨z1, z2, z3⟩, ⟨u1, u2, u3⟩⟩ := hd0
          (repeat' (first | (show wpListIn _ _ _ _ _ (_ :: _) _ _; first | (refine wx1 ?_; clear hk a; intro a hk) | (refine wx2 ?_ ?_ <;> (intro hp; clear hk a; intro a hk)) | (refine wx3 ?_; clear hk hS a; intro w b hS a hk) | (refine wx4 ?_; clear hk hS a; intro w hS a hk) | (refine wx5 ?_; clear hk hS a; intro w v hS a hk) | fail) | refine wx0 ?_ | (refine s_end hk ?_; clear hk a; intro a hk) | fail))
          refine wp_drawn 5 mixed (by kernel_rfl) hk hS ?_; clear hk hS a
          (repeat' (first | (show ObxE _ _ _ _ _ _ _ _ _ (_ :: _) _ _ _; first | refine ox1 ?_ | (refine ox2 ?_ ?_ <;> intro hp) | fail) | fail))
          refine' obe_res (fun us a w hk hd hS => ?_) ?_; rotate_left; focus (have hk := Kn.vw hk (by repeat (first | exact VW.nil | apply VW.val rfl | apply VW.base rfl rfl | apply VW.res rfl | apply VW.upd rfl | apply VW.cpy rfl | apply VW.dep rfl | apply VW.fn rfl | apply VW.lnd rfl | apply VW.tak rfl)); exact g_callO hk (hf := by kernel_rfl) (hc := ih tk (id', k', tag', text', ⟨x1, x2, x3⟩, ⟨y1, y2, y3⟩, ⟨z1, z2, z3⟩, ⟨u1, u2, u3⟩) _ hlt hfk (hS.rdSr hTr)) (h := fun _ _ h => h))
          refine' obe_dep 61 3 (V := fun u v => OwT 48 [snOf u] v) (fun us a w hk hd hS => ?_) ?_
          · have hk := Kn.vw hk (by repeat (first | exact VW.nil | apply VW.val rfl | apply VW.base rfl rfl | apply VW.res rfl | apply VW.upd rfl | apply VW.cpy rfl | apply VW.dep rfl | apply VW.fn rfl | apply VW.lnd rfl | apply VW.tak rfl))
            have hG : (streeH tk (us 3)).rd w := hd.1
            obtain ⟨⟨id2, k2, tag2, text2, ⟨x12, x22, x32⟩, ⟨y12, y22, y32⟩, ⟨z12, z22, z32⟩, ⟨u12, u22, u32⟩⟩, he, _⟩ := streeH.rd hG
            show Gives _ _ _ _ (fun v w' => St w [OwT 48 [snOf (us 3)] v] w')
            simp only [Nat.zero_add, Nat.reduceAdd] at hk
            rw [he] at hk ⊢
            rw [snOf_snV]
            exact v_bsT (xs := [((id2, k2, tag2, text2, ⟨x12, x22, x32⟩, ⟨y12, y22, y32⟩, ⟨z12, z22, z32⟩, ⟨u12, u22, u32⟩) : SnH)]) (m := 0) hk (hT := eT rfl) (hE := zT rfl) (hz := oT rfl)
          refine obe_nil ⟨rfl, ?_⟩; intro us a w hk hS
          simp only [resE, List.cons_append, List.nil_append, Nat.zero_add, Nat.reduceAdd] at hS
          replace hk := Kn.kp [2, 3, 52, 53, 54, 59, 61, 62] hk
          simp only [HV.of, Nat.zero_add, Nat.reduceAdd] at hk
          generalize us 3 = v63 at hS hk
          generalize us 4 = v64 at hS hk
          obtain ⟨hd1, rfl, hS1⟩ := St.stree hS (.there .here)
          clear hS
          have hS := hS1
          clear hS1
          rw [snOf_snV] at hS
          (repeat' (first | (show wpListIn _ _ _ _ _ (_ :: _) _ _; first | (refine wx1 ?_; clear hk a; intro a hk) | (refine wx2 ?_ ?_ <;> (intro hp; clear hk a; intro a hk)) | (refine wx3 ?_; clear hk hS a; intro w b hS a hk) | (refine wx4 ?_; clear hk hS a; intro w hS a hk) | (refine wx5 ?_; clear hk hS a; intro w v hS a hk) | fail) | refine wx0 ?_ | (refine s_end hk ?_; clear hk a; intro a hk) | fail))
          have hl1 : (H' ++ [hd1]).length = j + 1 := by rw [List.length_append, hHl]; rfl
          rename Value => vn
          obtain ⟨aovn, cvn, hshp, _⟩ := (OwT.rd (hS.rd (A := OwT 48 _ vn) (by (repeat (first | exact At.here | apply At.there))))).shape; subst hshp
          rw [hl1] at hS hk
          (repeat' (first | (show wpListIn _ _ _ _ _ (_ :: _) _ _; first | (refine wx1 ?_; clear hk a; intro a hk) | (refine wx2 ?_ ?_ <;> (intro hp; clear hk a; intro a hk)) | (refine wx3 ?_; clear hk hS a; intro w b hS a hk) | (refine wx4 ?_; clear hk hS a; intro w hS a hk) | (refine wx5 ?_; clear hk hS a; intro w v hS a hk) | fail) | refine wx0 ?_ | (refine s_end hk ?_; clear hk a; intro a hk) | fail))
          have hS1 := sforR.snoc (ts := kids.take j) (H := H') (t := tk) (h := hd1) (L := [OwT 48 (H' ++ [hd1]) (.slice aovn (j + 1) cvn), pts b3 [.int .i64 id, .int .i64 k, .string tag, .string text, .slice a21 cl.length m21, .slice ao al.length c, .slice bo sl.length f, .slice aovn (j + 1) cvn] 48, OwT 105 sl (.slice bo sl.length f), OwT 97 al (.slice ao al.length c), appH 9 cl (.slice a21 cl.length m21), pts b2 [.int .i64 0, .int .i64 0, .string ⟨#[]⟩, .string ⟨#[]⟩, .slice none 0 0, .slice none 0 0, .slice none 0 0, .slice none 0 0] 48, pts b1 [.int .i64 id, .int .i64 k, .string tag, .string text, .slice a1 cl.length m1, .slice a2 al.length m2, .slice a3 sl.length m3, .slice a4 H.length m4] 39]) (hS.sub (by (repeat (first | exact Sub.nil | exact Sub.refl | refine Sub.cons (by (repeat (first | exact At.here | apply At.there))) ?_))))
          rw [← hst] at hS1
          exact ⟨hjl, ((aovn, cvn), H' ++ [hd1]), hk.sd, hS1, trivial⟩
        · have hjj : j = kids.length := by have := hF.1; omega
          subst hjj
          rw [List.take_length] at hS
          simp only at hS hk
          (repeat' (first | (show wpListIn _ _ _ _ _ (_ :: _) _ _; first | (refine wx1 ?_; clear hk a; intro a hk) | (refine wx2 ?_ ?_ <;> (intro hp; clear hk a; intro a hk)) | (refine wx3 ?_; clear hk hS a; intro w b hS a hk) | (refine wx4 ?_; clear hk hS a; intro w hS a hk) | (refine wx5 ?_; clear hk hS a; intro w v hS a hk) | fail) | refine wx0 ?_ | (refine s_end hk ?_; clear hk a; intro a hk) | fail))
          refine done1R hk rfl (.str hS (hT := aT rfl) (hs := zT rfl)) (h := ?_)
          exact streeH.of (h := (id, k, tag, text, ⟨a21, cl.length, m21⟩, ⟨ao, al.length, c⟩, ⟨bo, sl.length, f⟩, ⟨ak, kids.length, ck⟩)) (streeR.of (A1 := appH 9 cl (.slice a21 cl.length m21)) (A2 := OwT 97 al (.slice ao al.length c)) (A3 := OwT 105 sl (.slice bo sl.length f)) (A4 := OwT 48 H' (.slice ak kids.length ck)) (hS.sub (by (repeat (first | exact Sub.nil | exact Sub.refl | refine Sub.cons (by (repeat (first | exact At.here | apply At.there))) ?_)))))
end Go.Proofs.YtkcjkbnbblpomaaGreatDoor
