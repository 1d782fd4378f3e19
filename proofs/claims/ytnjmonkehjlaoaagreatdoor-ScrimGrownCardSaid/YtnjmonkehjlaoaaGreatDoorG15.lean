/- Layer 7: which views may be, by themselves: names, values, kids: the program. Layer 7: which views may be, by themselves: the program. Layer 7: which views may be: the program. Layer 7: which views may be, with all that is below: the reference. -/
import Derived.Test.YtnjmonkehjlaoaaGreatDoorG14
set_option linter.all false
namespace Go.Proofs.YtnjmonkehjlaoaaGreatDoor
open Go.RowKit
set_option maxRecDepth 100000
attribute [local irreducible] Go.Code.wpIn Go.wpListIn Go.Calls Gives Go.Exit.then Go.Exit.inBlock Done ObxE
set_option maxHeartbeats 4000000 in
theorem names7_any (k : Int) (tag key text : ByteArray) (cl : List ByteArray) (al : List PrS) (sl : List PrI) (e lv m d : Int) (p q : Bool) (kids : List Tree) (a1 a2 a3 a4 : Option Addr) (m1 m2 m3 m4 : Nat) (H : List NdH) (w0 : World) (c1 : SlT cl (.slice a1 cl.length m1) w0) (c2 : SlT al (.slice a2 al.length m2) w0) (c3 : SlT sl (.slice a3 sl.length m3) w0) (c4 : SlT H (.slice a4 H.length m4) w0) (hF : FoR w0 kids H) (l1 : cl.length ≤ 1000) (l2 : al.length ≤ 1000) (l3 : sl.length ≤ 1000) (l4 : kids.length ≤ 1000) :
  Calls Tryz.prog 50 #[.agg #[.int .i64 k, .string tag, .string key, .string text, .slice a1 cl.length m1, .slice a2 al.length m2, .slice a3 sl.length m3, .int .i64 e, .int .i64 lv, .int .i64 m, .int .i64 d, .bool p, .bool q, .slice a4 H.length m4]] w0 (Ret fun v w => St w0 [OwT 9 (namesL cl al sl) v] w) := by
 refine enter Tryz.func50 rfl Tryz.ntmps50 rfl (fun a hk => ?_);have hS := St.refl w0
 (repeat' (first|((first|refine wx1 ?_|refine wx2 ?_ ?_<;>intro hp|refine s_end hk ?_)<;>(clear hk a;intro a hk))|((first|refine wx3 ?_;intro w b|refine wx4 ?_;intro w|refine wx5 ?_;intro w v);clear hk hS a;intro hS a hk)|refine wx0 ?_|fail))
 rename Nat => b1
 refine sg hk (g_callO hk (hf := by kernel_rfl) (hc := cloneS_any cl _ _ (hS.rdT c1) (by omega)) (h := ?_));clear hk a;rintro vn w hS1 a hk;replace hS := hS.call hS1;clear hS1
 rw [List.cons_append, List.nil_append] at hS
 have hv2 := hS.rdT c2
 (repeat' (first|((first|refine wx1 ?_|refine wx2 ?_ ?_<;>intro hp|refine s_end hk ?_)<;>(clear hk a;intro a hk))|((first|refine wx3 ?_;intro w b|refine wx4 ?_;intro w|refine wx5 ?_;intro w v);clear hk hS a;intro hS a hk)|refine wx0 ?_|fail))
 replace hS : St w0 [OwT 9 (cl ++ (al.take 0).map (·.1)) vn, pts b1 [.int .i64 k, .string tag, .string key, .string text, .slice a1 cl.length m1, .slice a2 al.length m2, .slice a3 sl.length m3, .int .i64 e, .int .i64 lv, .int .i64 m, .int .i64 d, .bool p, .bool q, .slice a4 H.length m4] 31] w := by
  rw [show cl ++ (al.take 0).map (·.1) = cl by simp]
  exact hS.sb
 replace hk := Kn.kp [1, 3, 12, 13, 14] hk
 refine wp_for al.length (fun i v => [(3, v), (14, .int .i64 (i : Int))]) (fun i v => [OwT 9 (cl ++ (al.take i).map (·.1)) v, pts b1 [.int .i64 k, .string tag, .string key, .string text, .slice a1 cl.length m1, .slice a2 al.length m2, .slice a3 sl.length m3, .int .i64 e, .int .i64 lv, .int .i64 m, .int .i64 d, .bool p, .bool q, .slice a4 H.length m4] 31]) (fun _ _ => True) vn hk skx hS trivial ?_
 clear hk hS a hv2
 rintro i vo a w hi hk hS -
 have hv2 := hS.rdT c2
 have hml : (cl ++ (al.take i).map (·.1)).length ≤ 2000 := by rw [List.length_append, List.length_map, List.length_take];omega
 by_cases hil : i < al.length
 ·obtain ⟨⟨nm, val⟩, hx⟩ : ∃ x, al[i]? = some x := ⟨_, List.getElem?_eq_getElem hil⟩
  have hst : cl ++ (al.take (i + 1)).map (·.1) = cl ++ (al.take i).map (·.1) ++ [nm] := by rw [take_snoc hx, List.map_append, List.map_singleton, List.append_assoc]
  (repeat' (first|((first|refine wx1 ?_|refine wx2 ?_ ?_<;>intro hp|refine s_end hk ?_)<;>(clear hk a;intro a hk))|((first|refine wx3 ?_;intro w b|refine wx4 ?_;intro w|refine wx5 ?_;intro w v);clear hk hS a;intro hS a hk)|refine wx0 ?_|fail))
  rw [← hst] at hS
  exact ⟨hil, _, hk.sd, hS.sb, trivial⟩
 ·have : i = al.length := by omega
  subst this
  rw [List.take_length] at hS hml
  have hv3 := hS.rdT c3
  (repeat' (first|((first|refine wx1 ?_|refine wx2 ?_ ?_<;>intro hp|refine s_end hk ?_)<;>(clear hk a;intro a hk))|((first|refine wx3 ?_;intro w b|refine wx4 ?_;intro w|refine wx5 ?_;intro w v);clear hk hS a;intro hS a hk)|refine wx0 ?_|fail))
  replace hS : St w0 [OwT 9 (cl ++ al.map (·.1) ++ (sl.take 0).map (·.1)) vo] w := by
   rw [show cl ++ al.map (·.1) ++ (sl.take 0).map (·.1) = cl ++ al.map (·.1) by simp]
   exact hS.sb
  replace hk := Kn.kp [3, 25, 26, 27] hk
  refine wp_for sl.length (fun i v => [(3, v), (27, .int .i64 (i : Int))]) (fun i v => [OwT 9 (cl ++ al.map (·.1) ++ (sl.take i).map (·.1)) v]) (fun _ _ => True) vo hk skx hS trivial ?_
  clear hk hS a hv3
  rintro i vp a w hi hk hS -
  have hv3 := hS.rdT c3
  have hml2 : (cl ++ al.map (·.1) ++ (sl.take i).map (·.1)).length ≤ 3000 := by rw [List.length_append, List.length_map, List.length_take];omega
  by_cases hil : i < sl.length
  ·obtain ⟨⟨nm, val⟩, hx⟩ : ∃ x, sl[i]? = some x := ⟨_, List.getElem?_eq_getElem hil⟩
   have hst : cl ++ al.map (·.1) ++ (sl.take (i + 1)).map (·.1) = cl ++ al.map (·.1) ++ (sl.take i).map (·.1) ++ [nm] := by rw [take_snoc hx, List.map_append, List.map_singleton, List.append_assoc (cl ++ al.map (·.1))]
   (repeat' (first|((first|refine wx1 ?_|refine wx2 ?_ ?_<;>intro hp|refine s_end hk ?_)<;>(clear hk a;intro a hk))|((first|refine wx3 ?_;intro w b|refine wx4 ?_;intro w|refine wx5 ?_;intro w v);clear hk hS a;intro hS a hk)|refine wx0 ?_|fail))
   rw [← hst] at hS
   exact ⟨hil, _, hk.sd, hS.sb, trivial⟩
  ·have : i = sl.length := by omega
   subst this
   rw [List.take_length] at hS
   (repeat' (first|((first|refine wx1 ?_|refine wx2 ?_ ?_<;>intro hp|refine s_end hk ?_)<;>(clear hk a;intro a hk))|((first|refine wx3 ?_;intro w b|refine wx4 ?_;intro w|refine wx5 ?_;intro w v);clear hk hS a;intro hS a hk)|refine wx0 ?_|fail))
   exact done1 hk (h := hS.sb)
theorem names_len {cl : List ByteArray} {al : List PrS} {sl : List PrI} (l1 : cl.length ≤ 1000) (l2 : al.length ≤ 1000) (l3 : sl.length ≤ 1000) : (namesL cl al sl).length ≤ 3000 := by
 unfold namesL;rw [List.length_append, List.length_append, List.length_map, List.length_map];omega
theorem all_takeP {α : Type} {l : List α} {i : Nat} {x : α} (h : l[i]? = some x) (p : α → Bool) : (l.take (i + 1)).all p = ((l.take i).all p && p x) := by rw [take_snoc h]; simp
theorem all_falseP {α : Type} {l : List α} {i : Nat} {x : α} (h : l[i]? = some x) {p : α → Bool} (hp : p x = false) : l.all p = false := by
 rw [List.all_eq_false];exact ⟨x, List.mem_of_getElem? h, by rw [hp];decide⟩
theorem satM_any (x : Int) (w0 : World) : Calls Tryz.prog 77 #[.int .i64 x] w0 (Ret fun v w => v = .int .i64 (max (-2147483648) (min x 2147483647)) ∧ St w0 [] w) := by
 refine enter Tryz.func77 rfl Tryz.ntmps77 rfl (fun a hk => ?_);have hS := St.refl w0
 (repeat' (first|((first|refine wx1 ?_|refine wx2 ?_ ?_<;>intro hp|refine s_end hk ?_)<;>(clear hk a;intro a hk))|((first|refine wx3 ?_;intro w b|refine wx4 ?_;intro w|refine wx5 ?_;intro w v);clear hk hS a;intro hS a hk)|refine wx0 ?_|fail))
 exact done1 hk (h := ⟨rfl, hS.nil⟩)
set_option maxHeartbeats 4000000 in
theorem valued_any (k : Int) (tag key text : ByteArray) (cl : List ByteArray) (al : List PrS) (sl : List PrI) (e lv m d : Int) (p q : Bool) (kids : List Tree) (a1 a2 a3 a4 : Option Addr) (m1 m2 m3 m4 : Nat) (H : List NdH) (w0 : World) (c1 : SlT cl (.slice a1 cl.length m1) w0) (c2 : SlT al (.slice a2 al.length m2) w0) (c3 : SlT sl (.slice a3 sl.length m3) w0) (c4 : SlT H (.slice a4 H.length m4) w0) (hF : FoR w0 kids H) (l1 : cl.length ≤ 1000) (l2 : al.length ≤ 1000) (l3 : sl.length ≤ 1000) (l4 : kids.length ≤ 1000) (hz : ∀ x ∈ al, x.2.size ≤ 1000000) :
  Calls Tryz.prog 86 #[.agg #[.int .i64 k, .string tag, .string key, .string text, .slice a1 cl.length m1, .slice a2 al.length m2, .slice a3 sl.length m3, .int .i64 e, .int .i64 lv, .int .i64 m, .int .i64 d, .bool p, .bool q, .slice a4 H.length m4]] w0 (Ret fun v w => v = .bool (valB al sl) ∧ St w0 [] w) := by
 refine enter Tryz.func86 rfl Tryz.ntmps86 rfl (fun a hk => ?_);have hS := St.refl w0
 have hv2 := hS.rdT c2
 (repeat' (first|((first|refine wx1 ?_|refine wx2 ?_ ?_<;>intro hp|refine s_end hk ?_)<;>(clear hk a;intro a hk))|((first|refine wx3 ?_;intro w b|refine wx4 ?_;intro w|refine wx5 ?_;intro w v);clear hk hS a;intro hS a hk)|refine wx0 ?_|fail))
 rename Nat => b1
 replace hk := Kn.kp [1, 8, 9, 10] hk
 refine wp_for al.length (fun i _ => [(10, .int .i64 (i : Int))]) (fun i _ => [pts b1 [.int .i64 k, .string tag, .string key, .string text, .slice a1 cl.length m1, .slice a2 al.length m2, .slice a3 sl.length m3, .int .i64 e, .int .i64 lv, .int .i64 m, .int .i64 d, .bool p, .bool q, .slice a4 H.length m4] 31]) (fun i _ => (al.take i).all (fun x => valS x.2) = true) () hk skx hS.sb rfl ?_
 clear hk hS a hv2
 rintro i - a w hi hk hS hA
 have hv2 := hS.rdT c2
 by_cases hil : i < al.length
 ·obtain ⟨⟨nm, val⟩, hx⟩ : ∃ x, al[i]? = some x := ⟨_, List.getElem?_eq_getElem hil⟩
  have hsz := hz _ (List.mem_of_getElem? hx)
  have hst := all_takeP hx (fun x : PrS => valS x.2)
  (repeat' (first|((first|refine wx1 ?_|refine wx2 ?_ ?_<;>intro hp|refine s_end hk ?_)<;>(clear hk a;intro a hk))|((first|refine wx3 ?_;intro w b|refine wx4 ?_;intro w|refine wx5 ?_;intro w v);clear hk hS a;intro hS a hk)|refine wx0 ?_|fail))
  refine sg hk (g_callO hk (hf := by kernel_rfl) (hc := value_any val hsz _) (h := ?_));clear hk a;rintro _ w ⟨rfl, hS1⟩ a hk;replace hS := hS.call0 hS1;clear hS1
  cases hb : valS val with
  | true =>
   rw [hb] at hk
   (repeat' (first|((first|refine wx1 ?_|refine wx2 ?_ ?_<;>intro hp|refine s_end hk ?_)<;>(clear hk a;intro a hk))|((first|refine wx3 ?_;intro w b|refine wx4 ?_;intro w|refine wx5 ?_;intro w v);clear hk hS a;intro hS a hk)|refine wx0 ?_|fail))
   exact ⟨hil, (), hk.sd, hS.sb, by rw [hst, hA];exact hb⟩
  | false =>
   rw [hb] at hk
   (repeat' (first|((first|refine wx1 ?_|refine wx2 ?_ ?_<;>intro hp|refine s_end hk ?_)<;>(clear hk a;intro a hk))|((first|refine wx3 ?_;intro w b|refine wx4 ?_;intro w|refine wx5 ?_;intro w v);clear hk hS a;intro hS a hk)|refine wx0 ?_|fail))
   exact done1 hk (h := ⟨by rw [valB, all_falseP hx (p := fun x : PrS => valS x.2) hb];rfl, hS.nil⟩)
 ·have : i = al.length := by omega
  subst this
  rw [List.take_length] at hA
  have hv3 := hS.rdT c3
  (repeat' (first|((first|refine wx1 ?_|refine wx2 ?_ ?_<;>intro hp|refine s_end hk ?_)<;>(clear hk a;intro a hk))|((first|refine wx3 ?_;intro w b|refine wx4 ?_;intro w|refine wx5 ?_;intro w v);clear hk hS a;intro hS a hk)|refine wx0 ?_|fail))
  replace hk := Kn.kp [20, 21, 22] hk
  refine wp_for sl.length (fun i _ => [(22, .int .i64 (i : Int))]) (fun i _ => []) (fun i _ => (sl.take i).all (fun x => decide (-2147483648 ≤ x.2 ∧ x.2 ≤ 2147483647)) = true) () hk skx hS.sb rfl ?_
  clear hk hS a hv3
  rintro i - a w hi hk hS hB
  have hv3 := hS.rdT c3
  by_cases hil : i < sl.length
  ·obtain ⟨⟨nm, val⟩, hx⟩ : ∃ x, sl[i]? = some x := ⟨_, List.getElem?_eq_getElem hil⟩
   have hst := all_takeP hx (fun x : PrI => decide (-2147483648 ≤ x.2 ∧ x.2 ≤ 2147483647))
   (repeat' (first|((first|refine wx1 ?_|refine wx2 ?_ ?_<;>intro hp|refine s_end hk ?_)<;>(clear hk a;intro a hk))|((first|refine wx3 ?_;intro w b|refine wx4 ?_;intro w|refine wx5 ?_;intro w v);clear hk hS a;intro hS a hk)|refine wx0 ?_|fail))
   refine wp_drawn 5 mixed (by kernel_rfl) hk hS ?_;clear hk hS a
   (repeat' (first|(show ObxE _ _ _ _ _ _ _ _ _ (_::_) _ _ _;first|refine ox1 ?_|refine ox2 ?_ ?_<;>intro hp)|fail))
   refine' obe_val (fun us a w hk hd hS => ?_) ?_;rotate_left;focus (have hk := Kn.vw hk vwx;exact g_callO hk (hf := by kernel_rfl) (hc := satM_any val _) (h := fun _ _ h => h))
   (repeat' (first|(show ObxE _ _ _ _ _ _ _ _ _ (_::_) _ _ _;first|refine ox1 ?_|refine ox2 ?_ ?_<;>intro hp)|fail))
   refine obe_nil ⟨rfl, ?_⟩;intro us a w hk hS
   (repeat' (first|((first|refine wx1 ?_|refine wx2 ?_ ?_<;>intro hp|refine s_end hk ?_)<;>(clear hk a;intro a hk))|((first|refine wx3 ?_;intro w b|refine wx4 ?_;intro w|refine wx5 ?_;intro w v);clear hk hS a;intro hS a hk)|refine wx0 ?_|fail))
   ·have hb : -2147483648 ≤ val ∧ val ≤ 2147483647 := by
     have : max (-2147483648) (min val 2147483647) = val := by assumption
     omega
    exact ⟨hil, (), hk.sd, hS.sb, by rw [hst, hB, Bool.true_and];exact decide_eq_true hb⟩
   ·have hb : ¬ (-2147483648 ≤ val ∧ val ≤ 2147483647) := by
     have : ¬ max (-2147483648) (min val 2147483647) = val := by assumption
     omega
    exact done1 hk (h := ⟨by rw [valB, all_falseP hx (p := fun x : PrI => decide (-2147483648 ≤ x.2 ∧ x.2 ≤ 2147483647)) (decide_eq_false hb), Bool.and_false], hS.nil⟩)
  ·have : i = sl.length := by omega
   subst this
   rw [List.take_length] at hB
   (repeat' (first|((first|refine wx1 ?_|refine wx2 ?_ ?_<;>intro hp|refine s_end hk ?_)<;>(clear hk a;intro a hk))|((first|refine wx3 ?_;intro w b|refine wx4 ?_;intro w|refine wx5 ?_;intro w v);clear hk hS a;intro hS a hk)|refine wx0 ?_|fail))
   exact done1 hk (h := ⟨by rw [valB, hA, hB];rfl, hS.nil⟩)
set_option maxHeartbeats 4000000 in
theorem kept_any (k : Int) (tag key text : ByteArray) (cl : List ByteArray) (al : List PrS) (sl : List PrI) (e lv m d : Int) (p q : Bool) (kids : List Tree) (a1 a2 a3 a4 : Option Addr) (m1 m2 m3 m4 : Nat) (H : List NdH) (w0 : World) (c1 : SlT cl (.slice a1 cl.length m1) w0) (c2 : SlT al (.slice a2 al.length m2) w0) (c3 : SlT sl (.slice a3 sl.length m3) w0) (c4 : SlT H (.slice a4 H.length m4) w0) (hF : FoR w0 kids H) (l1 : cl.length ≤ 1000) (l2 : al.length ≤ 1000) (l3 : sl.length ≤ 1000) (l4 : kids.length ≤ 1000) :
    Calls Tryz.prog 88 #[.agg #[.int .i64 k, .string tag, .string key, .string text, .slice a1 cl.length m1, .slice a2 al.length m2, .slice a3 sl.length m3, .int .i64 e, .int .i64 lv, .int .i64 m, .int .i64 d, .bool p, .bool q, .slice a4 H.length m4]] w0 (Ret fun v w => v = .bool (keptB k kids) ∧ St w0 [] w) := by
  have hHk : H.length = kids.length := hF.1
  refine enter Tryz.func88 rfl Tryz.ntmps88 rfl (fun a hk => ?_); have hS := St.refl w0
  have hv4 := hS.rdT c4
  by_cases hk2 : k = 2
  · (repeat' (first|((first|refine wx1 ?_|refine wx2 ?_ ?_<;>intro hp|refine s_end hk ?_)<;>(clear hk a;intro a hk))|((first|refine wx3 ?_;intro w b|refine wx4 ?_;intro w|refine wx5 ?_;intro w v);clear hk hS a;intro hS a hk)|refine wx0 ?_|fail))
    exact done1 hk (h := ⟨by simp [keptB, hk2], hS.nil⟩)
  · (repeat' (first|((first|refine wx1 ?_|refine wx2 ?_ ?_<;>intro hp|refine s_end hk ?_)<;>(clear hk a;intro a hk))|((first|refine wx3 ?_;intro w b|refine wx4 ?_;intro w|refine wx5 ?_;intro w v);clear hk hS a;intro hS a hk)|refine wx0 ?_|fail))
    rename Nat => b1
    replace hk := Kn.kp [1, 9, 10, 11] hk
    refine wp_for H.length (fun i _ => [(11, .int .i64 (i : Int))]) (fun i _ => [pts b1 [.int .i64 k, .string tag, .string key, .string text, .slice a1 cl.length m1, .slice a2 al.length m2, .slice a3 sl.length m3, .int .i64 e, .int .i64 lv, .int .i64 m, .int .i64 d, .bool p, .bool q, .slice a4 H.length m4] 31]) (fun i _ => (kids.take i).all kidB = true) () hk skx hS.sb rfl ?_
    clear hk hS a hv4
    rintro i - a w hi hk hS hA
    have hv4 := hS.rdT c4
    by_cases hil : i < H.length
    · obtain ⟨tk, htk⟩ : ∃ t, kids[i]? = some t := ⟨_, List.getElem?_eq_getElem (by omega)⟩
      obtain ⟨hd0, hx⟩ : ∃ x, H[i]? = some x := ⟨_, List.getElem?_eq_getElem hil⟩
      have hTr := hF.2 i tk hd0 htk hx
      have hst := all_takeP htk kidB
      obtain ⟨k', tag', key', text', cl', al', sl', e', lv', m', d', p', q', kids', x1, x2, y1, y2, z1, z2, u1, u2, H', rfl, rfl, _⟩ := hTr.split
      by_cases hb : k' = 2 ∧ ¬ key' = ⟨#[]⟩
      · obtain ⟨hb1, hb2⟩ := hb
        (repeat' (first|((first|refine wx1 ?_|refine wx2 ?_ ?_<;>intro hp|refine s_end hk ?_)<;>(clear hk a;intro a hk))|((first|refine wx3 ?_;intro w b|refine wx4 ?_;intro w|refine wx5 ?_;intro w v);clear hk hS a;intro hS a hk)|refine wx0 ?_|fail))
        exact ⟨hil, (), hk.sd, hS.sb, by rw [hst, hA, Bool.true_and]; exact decide_eq_true ⟨hb1, hb2⟩⟩
      · have hbf : keptB k kids = false := by
          rw [keptB, all_falseP htk (p := kidB) (decide_eq_false hb)]
          simp [hk2]
        rw [hbf]
        by_cases hb1 : k' = 2
        · have hb2 : key' = ⟨#[]⟩ := by
            by_cases h : key' = ⟨#[]⟩
            · exact h
            · exact absurd ⟨hb1, h⟩ hb
          (repeat' (first|((first|refine wx1 ?_|refine wx2 ?_ ?_<;>intro hp|refine s_end hk ?_)<;>(clear hk a;intro a hk))|((first|refine wx3 ?_;intro w b|refine wx4 ?_;intro w|refine wx5 ?_;intro w v);clear hk hS a;intro hS a hk)|refine wx0 ?_|fail))
          exact done1 hk (h := ⟨rfl, hS.nil⟩)
        · (repeat' (first|((first|refine wx1 ?_|refine wx2 ?_ ?_<;>intro hp|refine s_end hk ?_)<;>(clear hk a;intro a hk))|((first|refine wx3 ?_;intro w b|refine wx4 ?_;intro w|refine wx5 ?_;intro w v);clear hk hS a;intro hS a hk)|refine wx0 ?_|fail))
          exact done1 hk (h := ⟨rfl, hS.nil⟩)
    · have : i = kids.length := by omega
      subst this
      rw [List.take_length] at hA
      (repeat' (first|((first|refine wx1 ?_|refine wx2 ?_ ?_<;>intro hp|refine s_end hk ?_)<;>(clear hk a;intro a hk))|((first|refine wx3 ?_;intro w b|refine wx4 ?_;intro w|refine wx5 ?_;intro w v);clear hk hS a;intro hS a hk)|refine wx0 ?_|fail))
      · exact done1 hk (h := ⟨by have h3 : k = 3 := by assumption
                                 simp [keptB, hA, h3], hS.nil⟩)
      · exact done1 hk (h := ⟨by have h3 : kids.length ≤ 1 := by omega
                                 simp [keptB, hA, h3], hS.nil⟩)
      · exact done1 hk (h := ⟨by have h3 : ¬ kids.length ≤ 1 := by omega
                                 have h4 : ¬ k = 3 := by assumption
                                 simp [keptB, h3, h4, hk2], hS.nil⟩)
set_option maxHeartbeats 4000000 in
theorem bare_any (k : Int) (tag key text : ByteArray) (cl : List ByteArray) (al : List PrS) (sl : List PrI) (e lv m d : Int) (p q : Bool) (kids : List Tree) (a1 a2 a3 a4 : Option Addr) (m1 m2 m3 m4 : Nat) (H : List NdH) (w0 : World) (c1 : SlT cl (.slice a1 cl.length m1) w0) (c2 : SlT al (.slice a2 al.length m2) w0) (c3 : SlT sl (.slice a3 sl.length m3) w0) (c4 : SlT H (.slice a4 H.length m4) w0) (hF : FoR w0 kids H) (l1 : cl.length ≤ 1000) (l2 : al.length ≤ 1000) (l3 : sl.length ≤ 1000) (l4 : kids.length ≤ 1000) :
  Calls Tryz.prog 82 #[.agg #[.int .i64 k, .string tag, .string key, .string text, .slice a1 cl.length m1, .slice a2 al.length m2, .slice a3 sl.length m3, .int .i64 e, .int .i64 lv, .int .i64 m, .int .i64 d, .bool p, .bool q, .slice a4 H.length m4]] w0 (Ret fun v w => v = .bool (bareB tag key cl al sl (e, lv, m, d, p, q) kids) ∧ St w0 [] w) := by
 have hHk : H.length = kids.length := hF.1
 unfold bareB
 refine enter Tryz.func82 rfl Tryz.ntmps82 rfl (fun a hk => ?_);have hS := St.refl w0
 have hv1 := hS.rdT c1
 have hv2 := hS.rdT c2
 have hv3 := hS.rdT c3
 have hv4 := hS.rdT c4
 (repeat' (first|((first|refine wx1 ?_|refine wx2 ?_ ?_<;>intro hp|refine s_end hk ?_)<;>(clear hk a;intro a hk))|((first|refine wx3 ?_;intro w b|refine wx4 ?_;intro w|refine wx5 ?_;intro w v);clear hk hS a;intro hS a hk)|refine wx0 ?_|fail))
 ·have ht : tag = ⟨#[]⟩ := by assumption
  have hy : key = ⟨#[]⟩ := by assumption
  have hl : cl.length + al.length + sl.length + kids.length = 0 := by omega
  have e0 := eqC_enc (α := Opt) (x := (e, lv, m, d, p, q)) (y := (0, 0, 0, 0, false, false)) (b := true) (by assumption)
  rw [if_pos rfl] at e0
  exact done1 hk (h := ⟨by rw [decide_eq_true ⟨ht, hy, hl, e0⟩], hS.nil⟩)
 ·have e0 := eqC_enc (α := Opt) (x := (e, lv, m, d, p, q)) (y := (0, 0, 0, 0, false, false)) (b := false) (by assumption)
  rw [if_neg (by decide)] at e0
  exact done1 hk (h := ⟨by rw [decide_eq_false (fun h => e0 h.2.2.2)], hS.nil⟩)
 ·have hl : ¬ cl.length + al.length + sl.length + kids.length = 0 := by omega
  exact done1 hk (h := ⟨by rw [decide_eq_false (fun h => hl h.2.2.1)], hS.nil⟩)
 ·have hy : ¬ key = ⟨#[]⟩ := by assumption
  exact done1 hk (h := ⟨by rw [decide_eq_false (fun h => hy h.2.1)], hS.nil⟩)
 ·have hy : ¬ tag = ⟨#[]⟩ := by assumption
  exact done1 hk (h := ⟨by rw [decide_eq_false (fun h => hy h.1)], hS.nil⟩)
end Go.Proofs.YtnjmonkehjlaoaaGreatDoor
namespace Go.Proofs.YtnjmonkehjlaoaaGreatDoor
open Go.RowKit
set_option maxRecDepth 100000
attribute [local irreducible] Go.Code.wpIn Go.wpListIn Go.Calls Gives Go.Exit.then Go.Exit.inBlock Done ObxE
theorem may1_any (s : ByteArray) (hs : s.size ≤ 1000000) (w0 : World) : Calls Tryz.prog 84 #[.string s] w0 (Ret fun v w => v = .bool (!nameS s) ∧ St w0 [] w) := by
 refine enter Tryz.func84 rfl Tryz.ntmps84 rfl (fun a hk => ?_);have hS := St.refl w0
 (repeat' (first|((first|refine wx1 ?_|refine wx2 ?_ ?_<;>intro hp|refine s_end hk ?_)<;>(clear hk a;intro a hk))|((first|refine wx3 ?_;intro w b|refine wx4 ?_;intro w|refine wx5 ?_;intro w v);clear hk hS a;intro hS a hk)|refine wx0 ?_|fail))
 refine sg hk (g_callO hk (hf := by kernel_rfl) (hc := name_any s hs _) (h := ?_));clear hk a;rintro _ w ⟨rfl, hS1⟩ a hk;replace hS := hS.call0 hS1;clear hS1
 (repeat' (first|((first|refine wx1 ?_|refine wx2 ?_ ?_<;>intro hp|refine s_end hk ?_)<;>(clear hk a;intro a hk))|((first|refine wx3 ?_;intro w b|refine wx4 ?_;intro w|refine wx5 ?_;intro w v);clear hk hS a;intro hS a hk)|refine wx0 ?_|fail))
 exact done1 hk (h := ⟨rfl, hS.nil⟩)
set_option maxHeartbeats 16000000 in
theorem may7_any (k : Int) (tag key text : ByteArray) (cl : List ByteArray) (al : List PrS) (sl : List PrI) (e lv m d : Int) (p q : Bool) (kids : List Tree) (a1 a2 a3 a4 : Option Addr) (m1 m2 m3 m4 : Nat) (H : List NdH) (w0 : World) (c1 : SlT cl (.slice a1 cl.length m1) w0) (c2 : SlT al (.slice a2 al.length m2) w0) (c3 : SlT sl (.slice a3 sl.length m3) w0) (c4 : SlT H (.slice a4 H.length m4) w0) (hF : FoR w0 kids H) (l1 : cl.length ≤ 1000) (l2 : al.length ≤ 1000) (l3 : sl.length ≤ 1000) (l4 : kids.length ≤ 1000) (hz1 : tag.size ≤ 1000000) (hz2 : key.size ≤ 1000000) (hz3 : text.size ≤ 1000000) (hz5 : ∀ x ∈ al, x.2.size ≤ 1000000) (hz6 : ∀ c ∈ namesL cl al sl, c.size ≤ 1000000) :
  Calls Tryz.prog 48 #[.agg #[.int .i64 k, .string tag, .string key, .string text, .slice a1 cl.length m1, .slice a2 al.length m2, .slice a3 sl.length m3, .int .i64 e, .int .i64 lv, .int .i64 m, .int .i64 d, .bool p, .bool q, .slice a4 H.length m4]] w0 (Ret fun v w => v = .bool (mayB k tag key text cl al sl (e, lv, m, d, p, q) kids) ∧ St w0 [] w) := by
 have hba := fun w0 c1 c2 c3 c4 hF l1 l2 l3 l4 => bare_any k tag key text cl al sl e lv m d p q kids a1 a2 a3 a4 m1 m2 m3 m4 H w0 c1 c2 c3 c4 hF l1 l2 l3 l4
 have hva := fun w0 c1 c2 c3 c4 hF l1 l2 l3 l4 => valued_any k tag key text cl al sl e lv m d p q kids a1 a2 a3 a4 m1 m2 m3 m4 H w0 c1 c2 c3 c4 hF l1 l2 l3 l4 hz5
 have hkp := fun w0 c1 c2 c3 c4 hF l1 l2 l3 l4 => kept_any k tag key text cl al sl e lv m d p q kids a1 a2 a3 a4 m1 m2 m3 m4 H w0 c1 c2 c3 c4 hF l1 l2 l3 l4
 have hop := fun w0 => optsMay_any e lv m d p q k w0
 have hnm := fun w0 => name_any tag hz1 w0
 have hky := fun w0 => key_any key hz2 w0
 have htx := fun w0 => text_any text hz3 w0
 have hna : (namesL cl al sl).any (fun s => !nameS s) = !((namesL cl al sl).all nameS) := by rw [List.not_all_eq_any_not]
 unfold mayB
 generalize bareB tag key cl al sl (e, lv, m, d, p, q) kids = bb at *
 generalize valB al sl = bv at *
 generalize keptB k kids = bp at *
 generalize optsB (e, lv, m, d, p, q) k = bo at *
 generalize nameS tag = bt at *
 generalize keyS key = bk at *
 generalize txtS text = bx at *
 generalize (namesL cl al sl).all nameS = bn at *
 refine enter Tryz.func48 rfl Tryz.ntmps48 rfl (fun a hk => ?_);have hS := St.refl w0
 by_cases h1 : k = 1
 ·rw [if_pos h1]
  (repeat' (first|((first|refine wx1 ?_|refine wx2 ?_ ?_<;>intro hp|refine s_end hk ?_)<;>(clear hk a;intro a hk))|((first|refine wx3 ?_;intro w b|refine wx4 ?_;intro w|refine wx5 ?_;intro w v);clear hk hS a;intro hS a hk)|refine wx0 ?_|fail))
  refine sg hk (g_callO hk (hf := by kernel_rfl) (hc := hba _ (hS.rdT c1) (hS.rdT c2) (hS.rdT c3) (hS.rdT c4) (hS.rdFo hF) l1 l2 l3 l4) (h := ?_));clear hk a;rintro _ w ⟨rfl, hS1⟩ a hk;replace hS := hS.call0 hS1;clear hS1
  cases bb with
  | false =>
   (repeat' (first|((first|refine wx1 ?_|refine wx2 ?_ ?_<;>intro hp|refine s_end hk ?_)<;>(clear hk a;intro a hk))|((first|refine wx3 ?_;intro w b|refine wx4 ?_;intro w|refine wx5 ?_;intro w v);clear hk hS a;intro hS a hk)|refine wx0 ?_|fail))
   exact done1 hk (h := ⟨rfl, hS.nil⟩)
  | true =>
   (repeat' (first|((first|refine wx1 ?_|refine wx2 ?_ ?_<;>intro hp|refine s_end hk ?_)<;>(clear hk a;intro a hk))|((first|refine wx3 ?_;intro w b|refine wx4 ?_;intro w|refine wx5 ?_;intro w v);clear hk hS a;intro hS a hk)|refine wx0 ?_|fail))
   refine sg hk (g_callO hk (hf := by kernel_rfl) (hc := htx _) (h := ?_));clear hk a;rintro _ w ⟨rfl, hS1⟩ a hk;replace hS := hS.call0 hS1;clear hS1
   (repeat' (first|((first|refine wx1 ?_|refine wx2 ?_ ?_<;>intro hp|refine s_end hk ?_)<;>(clear hk a;intro a hk))|((first|refine wx3 ?_;intro w b|refine wx4 ?_;intro w|refine wx5 ?_;intro w v);clear hk hS a;intro hS a hk)|refine wx0 ?_|fail))
   exact done1 hk (h := ⟨by simp, hS.nil⟩)
 ·rw [if_neg h1]
  by_cases h234 : k = 2 ∨ k = 3 ∨ k = 4
  ·rw [if_pos h234]
   rcases h234 with hk2 | hk2 | hk2
   all_goals (
    (repeat' (first|((first|refine wx1 ?_|refine wx2 ?_ ?_<;>intro hp|refine s_end hk ?_)<;>(clear hk a;intro a hk))|((first|refine wx3 ?_;intro w b|refine wx4 ?_;intro w|refine wx5 ?_;intro w v);clear hk hS a;intro hS a hk)|refine wx0 ?_|fail))
    refine sg hk (g_callO hk (hf := by kernel_rfl) (hc := names7_any k tag key text cl al sl e lv m d p q kids a1 a2 a3 a4 m1 m2 m3 m4 H _ (hS.rdT c1) (hS.rdT c2) (hS.rdT c3) (hS.rdT c4) (hS.rdFo hF) l1 l2 l3 l4) (h := ?_));clear hk a;rintro vn w hS1 a hk;replace hS := hS.call hS1;clear hS1
    rw [List.cons_append, List.nil_append] at hS
    (repeat' (first|((first|refine wx1 ?_|refine wx2 ?_ ?_<;>intro hp|refine s_end hk ?_)<;>(clear hk a;intro a hk))|((first|refine wx3 ?_;intro w b|refine wx4 ?_;intro w|refine wx5 ?_;intro w v);clear hk hS a;intro hS a hk)|refine wx0 ?_|fail))
    refine sg hk (g_callO hk (hf := by kernel_rfl) (hc := anyN_any (fun s => !nameS s) (namesL cl al sl) 84 vn _ (by first | exact St.rdT hS (by assumption) | exact OwT.rd (hS.rd (A := OwT _ _ _) atx) | assumption) (by have := names_len l1 l2 l3;omega) (by kernel_rfl) (fun x hx w => may1_any x (hz6 x hx) w)) (h := ?_));clear hk a;rintro _ w ⟨rfl, hS1⟩ a hk;replace hS := hS.call0 hS1;clear hS1
    rw [hna] at hk
    by_cases ht : text = ⟨#[]⟩
    ·(repeat' (first|((first|refine wx1 ?_|refine wx2 ?_ ?_<;>intro hp|refine s_end hk ?_)<;>(clear hk a;intro a hk))|((first|refine wx3 ?_;intro w b|refine wx4 ?_;intro w|refine wx5 ?_;intro w v);clear hk hS a;intro hS a hk)|refine wx0 ?_|fail))
     refine sg hk (g_callO hk (hf := by kernel_rfl) (hc := hnm _) (h := ?_));clear hk a;rintro _ w ⟨rfl, hS1⟩ a hk;replace hS := hS.call0 hS1;clear hS1
     cases bt with
     | false =>
      (repeat' (first|((first|refine wx1 ?_|refine wx2 ?_ ?_<;>intro hp|refine s_end hk ?_)<;>(clear hk a;intro a hk))|((first|refine wx3 ?_;intro w b|refine wx4 ?_;intro w|refine wx5 ?_;intro w v);clear hk hS a;intro hS a hk)|refine wx0 ?_|fail))
      exact done1 hk (h := ⟨by simp [ht], hS.nil⟩)
     | true =>
      cases bn with
      | false =>
       (repeat' (first|((first|refine wx1 ?_|refine wx2 ?_ ?_<;>intro hp|refine s_end hk ?_)<;>(clear hk a;intro a hk))|((first|refine wx3 ?_;intro w b|refine wx4 ?_;intro w|refine wx5 ?_;intro w v);clear hk hS a;intro hS a hk)|refine wx0 ?_|fail))
       exact done1 hk (h := ⟨by simp [ht], hS.nil⟩)
      | true =>
       by_cases hy : key = ⟨#[]⟩
       ·(repeat' (first|((first|refine wx1 ?_|refine wx2 ?_ ?_<;>intro hp|refine s_end hk ?_)<;>(clear hk a;intro a hk))|((first|refine wx3 ?_;intro w b|refine wx4 ?_;intro w|refine wx5 ?_;intro w v);clear hk hS a;intro hS a hk)|refine wx0 ?_|fail))
        refine sg hk (g_callO hk (hf := by kernel_rfl) (hc := hva _ (hS.rdT c1) (hS.rdT c2) (hS.rdT c3) (hS.rdT c4) (hS.rdFo hF) l1 l2 l3 l4) (h := ?_));clear hk a;rintro _ w ⟨rfl, hS1⟩ a hk;replace hS := hS.call0 hS1;clear hS1
        cases bv with
        | false =>
         (repeat' (first|((first|refine wx1 ?_|refine wx2 ?_ ?_<;>intro hp|refine s_end hk ?_)<;>(clear hk a;intro a hk))|((first|refine wx3 ?_;intro w b|refine wx4 ?_;intro w|refine wx5 ?_;intro w v);clear hk hS a;intro hS a hk)|refine wx0 ?_|fail))
         exact done1 hk (h := ⟨by simp [ht, hy], hS.nil⟩)
        | true =>
         (repeat' (first|((first|refine wx1 ?_|refine wx2 ?_ ?_<;>intro hp|refine s_end hk ?_)<;>(clear hk a;intro a hk))|((first|refine wx3 ?_;intro w b|refine wx4 ?_;intro w|refine wx5 ?_;intro w v);clear hk hS a;intro hS a hk)|refine wx0 ?_|fail))
         refine sg hk (g_callO hk (hf := by kernel_rfl) (hc := hop _) (h := ?_));clear hk a;rintro _ w ⟨rfl, hS1⟩ a hk;replace hS := hS.call0 hS1;clear hS1
         cases bo with
         | false =>
          (repeat' (first|((first|refine wx1 ?_|refine wx2 ?_ ?_<;>intro hp|refine s_end hk ?_)<;>(clear hk a;intro a hk))|((first|refine wx3 ?_;intro w b|refine wx4 ?_;intro w|refine wx5 ?_;intro w v);clear hk hS a;intro hS a hk)|refine wx0 ?_|fail))
          exact done1 hk (h := ⟨by simp [ht, hy], hS.nil⟩)
         | true =>
          (repeat' (first|((first|refine wx1 ?_|refine wx2 ?_ ?_<;>intro hp|refine s_end hk ?_)<;>(clear hk a;intro a hk))|((first|refine wx3 ?_;intro w b|refine wx4 ?_;intro w|refine wx5 ?_;intro w v);clear hk hS a;intro hS a hk)|refine wx0 ?_|fail))
          refine sg hk (g_callO hk (hf := by kernel_rfl) (hc := hkp _ (hS.rdT c1) (hS.rdT c2) (hS.rdT c3) (hS.rdT c4) (hS.rdFo hF) l1 l2 l3 l4) (h := ?_));clear hk a;rintro _ w ⟨rfl, hS1⟩ a hk;replace hS := hS.call0 hS1;clear hS1
          cases bp with
          | false =>
           (repeat' (first|((first|refine wx1 ?_|refine wx2 ?_ ?_<;>intro hp|refine s_end hk ?_)<;>(clear hk a;intro a hk))|((first|refine wx3 ?_;intro w b|refine wx4 ?_;intro w|refine wx5 ?_;intro w v);clear hk hS a;intro hS a hk)|refine wx0 ?_|fail))
           exact done1 hk (h := ⟨by simp [ht, hy], hS.nil⟩)
          | true =>
           (repeat' (first|((first|refine wx1 ?_|refine wx2 ?_ ?_<;>intro hp|refine s_end hk ?_)<;>(clear hk a;intro a hk))|((first|refine wx3 ?_;intro w b|refine wx4 ?_;intro w|refine wx5 ?_;intro w v);clear hk hS a;intro hS a hk)|refine wx0 ?_|fail))
           exact done1 hk (h := ⟨by simp [ht, hy], hS.nil⟩)
       ·(repeat' (first|((first|refine wx1 ?_|refine wx2 ?_ ?_<;>intro hp|refine s_end hk ?_)<;>(clear hk a;intro a hk))|((first|refine wx3 ?_;intro w b|refine wx4 ?_;intro w|refine wx5 ?_;intro w v);clear hk hS a;intro hS a hk)|refine wx0 ?_|fail))
        refine sg hk (g_callO hk (hf := by kernel_rfl) (hc := hky _) (h := ?_));clear hk a;rintro _ w ⟨rfl, hS1⟩ a hk;replace hS := hS.call0 hS1;clear hS1
        cases bk with
        | false =>
         (repeat' (first|((first|refine wx1 ?_|refine wx2 ?_ ?_<;>intro hp|refine s_end hk ?_)<;>(clear hk a;intro a hk))|((first|refine wx3 ?_;intro w b|refine wx4 ?_;intro w|refine wx5 ?_;intro w v);clear hk hS a;intro hS a hk)|refine wx0 ?_|fail))
         exact done1 hk (h := ⟨by simp [ht, hy], hS.nil⟩)
        | true =>
         (repeat' (first|((first|refine wx1 ?_|refine wx2 ?_ ?_<;>intro hp|refine s_end hk ?_)<;>(clear hk a;intro a hk))|((first|refine wx3 ?_;intro w b|refine wx4 ?_;intro w|refine wx5 ?_;intro w v);clear hk hS a;intro hS a hk)|refine wx0 ?_|fail))
         refine sg hk (g_callO hk (hf := by kernel_rfl) (hc := hva _ (hS.rdT c1) (hS.rdT c2) (hS.rdT c3) (hS.rdT c4) (hS.rdFo hF) l1 l2 l3 l4) (h := ?_));clear hk a;rintro _ w ⟨rfl, hS1⟩ a hk;replace hS := hS.call0 hS1;clear hS1
         cases bv with
         | false =>
          (repeat' (first|((first|refine wx1 ?_|refine wx2 ?_ ?_<;>intro hp|refine s_end hk ?_)<;>(clear hk a;intro a hk))|((first|refine wx3 ?_;intro w b|refine wx4 ?_;intro w|refine wx5 ?_;intro w v);clear hk hS a;intro hS a hk)|refine wx0 ?_|fail))
          exact done1 hk (h := ⟨by simp [ht, hy], hS.nil⟩)
         | true =>
          (repeat' (first|((first|refine wx1 ?_|refine wx2 ?_ ?_<;>intro hp|refine s_end hk ?_)<;>(clear hk a;intro a hk))|((first|refine wx3 ?_;intro w b|refine wx4 ?_;intro w|refine wx5 ?_;intro w v);clear hk hS a;intro hS a hk)|refine wx0 ?_|fail))
          refine sg hk (g_callO hk (hf := by kernel_rfl) (hc := hop _) (h := ?_));clear hk a;rintro _ w ⟨rfl, hS1⟩ a hk;replace hS := hS.call0 hS1;clear hS1
          cases bo with
          | false =>
           (repeat' (first|((first|refine wx1 ?_|refine wx2 ?_ ?_<;>intro hp|refine s_end hk ?_)<;>(clear hk a;intro a hk))|((first|refine wx3 ?_;intro w b|refine wx4 ?_;intro w|refine wx5 ?_;intro w v);clear hk hS a;intro hS a hk)|refine wx0 ?_|fail))
           exact done1 hk (h := ⟨by simp [ht, hy], hS.nil⟩)
          | true =>
           (repeat' (first|((first|refine wx1 ?_|refine wx2 ?_ ?_<;>intro hp|refine s_end hk ?_)<;>(clear hk a;intro a hk))|((first|refine wx3 ?_;intro w b|refine wx4 ?_;intro w|refine wx5 ?_;intro w v);clear hk hS a;intro hS a hk)|refine wx0 ?_|fail))
           refine sg hk (g_callO hk (hf := by kernel_rfl) (hc := hkp _ (hS.rdT c1) (hS.rdT c2) (hS.rdT c3) (hS.rdT c4) (hS.rdFo hF) l1 l2 l3 l4) (h := ?_));clear hk a;rintro _ w ⟨rfl, hS1⟩ a hk;replace hS := hS.call0 hS1;clear hS1
           cases bp with
           | false =>
            (repeat' (first|((first|refine wx1 ?_|refine wx2 ?_ ?_<;>intro hp|refine s_end hk ?_)<;>(clear hk a;intro a hk))|((first|refine wx3 ?_;intro w b|refine wx4 ?_;intro w|refine wx5 ?_;intro w v);clear hk hS a;intro hS a hk)|refine wx0 ?_|fail))
            exact done1 hk (h := ⟨by simp [ht, hy], hS.nil⟩)
           | true =>
            (repeat' (first|((first|refine wx1 ?_|refine wx2 ?_ ?_<;>intro hp|refine s_end hk ?_)<;>(clear hk a;intro a hk))|((first|refine wx3 ?_;intro w b|refine wx4 ?_;intro w|refine wx5 ?_;intro w v);clear hk hS a;intro hS a hk)|refine wx0 ?_|fail))
            exact done1 hk (h := ⟨by simp [ht, hy], hS.nil⟩)
    ·(repeat' (first|((first|refine wx1 ?_|refine wx2 ?_ ?_<;>intro hp|refine s_end hk ?_)<;>(clear hk a;intro a hk))|((first|refine wx3 ?_;intro w b|refine wx4 ?_;intro w|refine wx5 ?_;intro w v);clear hk hS a;intro hS a hk)|refine wx0 ?_|fail))
     exact done1 hk (h := ⟨by simp [ht], hS.nil⟩)
   )
  ·rw [if_neg h234]
   have hk2 : ¬ k = 2 := fun h => h234 (.inl h)
   have hk3 : ¬ k = 3 := fun h => h234 (.inr (.inl h))
   have hk4 : ¬ k = 4 := fun h => h234 (.inr (.inr h))
   (repeat' (first|((first|refine wx1 ?_|refine wx2 ?_ ?_<;>intro hp|refine s_end hk ?_)<;>(clear hk a;intro a hk))|((first|refine wx3 ?_;intro w b|refine wx4 ?_;intro w|refine wx5 ?_;intro w v);clear hk hS a;intro hS a hk)|refine wx0 ?_|fail))
   exact done1 hk (h := ⟨rfl, hS.nil⟩)
end Go.Proofs.YtnjmonkehjlaoaaGreatDoor
namespace Go.Proofs.YtnjmonkehjlaoaaGreatDoor
open Go.RowKit
set_option maxRecDepth 100000
attribute [local irreducible] Go.Code.wpIn Go.wpListIn Go.Calls Gives Go.Exit.then Go.Exit.inBlock Done ObxE
abbrev encSt : ByteArray → Value := fun s => .string s
theorem keySt : KeyT Tryz.prog 9 encSt := keyStr (sT rfl)
theorem twc_true {ks : List ByteArray} {c : ByteArray} {j : Nat} (h : c ≠ ⟨#[]⟩) (h1 : 1 < cntK c (ks.take j)) : twcB ks = true := by
 have h2 : cntK c (ks.take j) ≤ cntK c ks := List.Sublist.countP_le (List.take_sublist _ _)
 have hm : c ∈ ks := by
  have h3 : 0 < cntK c ks := by omega
  obtain ⟨x, hx, e⟩ := List.countP_pos_iff.1 h3
  rw [decide_eq_true_eq] at e
  rw [← e];exact hx
 exact List.any_eq_true.2 ⟨c, hm, decide_eq_true ⟨h, by omega⟩⟩
theorem twc_false {ks : List ByteArray} (h : ∀ c, c ≠ ⟨#[]⟩ → cntK c ks ≤ 1) : twcB ks = false := by
 unfold twcB
 rw [List.any_eq_false]
 intro c _
 simp only [decide_eq_true_eq]
 rintro ⟨h1, h2⟩
 have := h c h1
 omega
theorem count_snoc {ks : List ByteArray} {i : Nat} {x : ByteArray} (h : ks[i]? = some x) (c : ByteArray) : cntK c (ks.take (i + 1)) = cntK c (ks.take i) + if x = c then 1 else 0 := by
 unfold cntK
 rw [take_snoc h, List.countP_append, List.countP_singleton]
 by_cases e : x = c
 ·rw [if_pos (decide_eq_true e), if_pos e]
 ·rw [if_neg (by simpa using e), if_neg e]
set_option maxHeartbeats 4000000 in
theorem twice_any (k : Int) (tag key text : ByteArray) (cl : List ByteArray) (al : List PrS) (sl : List PrI) (e lv m d : Int) (p q : Bool) (kids : List Tree) (a1 a2 a3 a4 : Option Addr) (m1 m2 m3 m4 : Nat) (H : List NdH) (w0 : World) (c1 : SlT cl (.slice a1 cl.length m1) w0) (c2 : SlT al (.slice a2 al.length m2) w0) (c3 : SlT sl (.slice a3 sl.length m3) w0) (c4 : SlT H (.slice a4 H.length m4) w0) (hF : FoR w0 kids H) (l1 : cl.length ≤ 1000) (l2 : al.length ≤ 1000) (l3 : sl.length ≤ 1000) (l4 : kids.length ≤ 1000) :
  Calls Tryz.prog 52 #[.agg #[.int .i64 k, .string tag, .string key, .string text, .slice a1 cl.length m1, .slice a2 al.length m2, .slice a3 sl.length m3, .int .i64 e, .int .i64 lv, .int .i64 m, .int .i64 d, .bool p, .bool q, .slice a4 H.length m4]] w0 (Ret fun v w => v = .bool (twcB (kids.map Tree.key)) ∧ St w0 [] w) := by
 have hHk : H.length = kids.length := hF.1
 refine enter Tryz.func52 rfl Tryz.ntmps52 rfl (fun a hk => ?_);have hS := St.refl w0
 have hv4 := hS.rdT c4
 (repeat' (first|((first|refine wx1 ?_|refine wx2 ?_ ?_<;>intro hp|refine s_end hk ?_)<;>(clear hk a;intro a hk))|((first|refine wx3 ?_;intro w b|refine wx4 ?_;intro w|refine wx5 ?_;intro w v);clear hk hS a;intro hS a hk)|refine wx0 ?_|fail))
 rename Nat => b1
 refine sg hk (g_makeMap encSt hS ?_);clear hk hS a;intro w mv hS a hk
 have hv4 := hS.rdT c4
 (repeat' (first|((first|refine wx1 ?_|refine wx2 ?_ ?_<;>intro hp|refine s_end hk ?_)<;>(clear hk a;intro a hk))|((first|refine wx3 ?_;intro w b|refine wx4 ?_;intro w|refine wx5 ?_;intro w v);clear hk hS a;intro hS a hk)|refine wx0 ?_|fail))
 replace hk := Kn.kp [3, 8, 9, 10] hk
 generalize hks : kids.map Tree.key = ks
 have hkl : ks.length = kids.length := by rw [← hks, List.length_map]
 refine wp_for H.length (fun i _ => [(10, .int .i64 (i : Int))]) (fun i m => [mapH encSt mv m]) (fun i m => (∀ c, (getL m c).getD (.int .i64 0) = .int .i64 (cntK c (ks.take i) : Int)) ∧ ∀ c, c ≠ ⟨#[]⟩ → cntK c (ks.take i) ≤ 1) [] hk skx hS.sb ⟨fun c => rfl, fun c _ => by simp [cntK]⟩ ?_
 clear hk hS a hv4
 rintro i m9 a w hi hk hS ⟨hM, hO⟩
 have hv4 := hS.rdT c4
 by_cases hil : i < H.length
 ·obtain ⟨tk, htk⟩ : ∃ t, kids[i]? = some t := ⟨_, List.getElem?_eq_getElem (by omega)⟩
  obtain ⟨hd0, hx⟩ : ∃ x, H[i]? = some x := ⟨_, List.getElem?_eq_getElem hil⟩
  have hTr := hF.2 i tk hd0 htk hx
  have hkx : ks[i]? = some tk.key := by rw [← hks, List.getElem?_map, htk];rfl
  obtain ⟨k', tag', key', text', cl', al', sl', e', lv', m', d', p', q', kids', x1, x2, y1, y2, z1, z2, u1, u2, H', rfl, rfl, _⟩ := hTr.split
  have hkx : ks[i]? = some key' := hkx
  have hcs := count_snoc hkx
  have hct : cntK key' (ks.take i) ≤ i := by
   have := List.countP_le_length (p := fun x => decide (x = key')) (l := ks.take i)
   rw [List.length_take] at this
   unfold cntK
   omega
  (repeat' (first|((first|refine wx1 ?_|refine wx2 ?_ ?_<;>intro hp|refine s_end hk ?_)<;>(clear hk a;intro a hk))|((first|refine wx3 ?_;intro w b|refine wx4 ?_;intro w|refine wx5 ?_;intro w v);clear hk hS a;intro hS a hk)|refine wx0 ?_|fail))
  refine sg hk (g_lookup (k := key') hk (hS.rd (A := mapH encSt mv m9) atx) ?_ (mT rfl) keySt (oT rfl));clear hk a;intro a hk
  rw [hM key'] at hk
  (repeat' (first|((first|refine wx1 ?_|refine wx2 ?_ ?_<;>intro hp|refine s_end hk ?_)<;>(clear hk a;intro a hk))|((first|refine wx3 ?_;intro w b|refine wx4 ?_;intro w|refine wx5 ?_;intro w v);clear hk hS a;intro hS a hk)|refine wx0 ?_|fail))
  refine su hk (g_mapUpdate (k := key') (u := .int .i64 ((cntK key' (ks.take i) : Int) + 1)) hk hS ?_ (mT rfl) keySt);clear hk hS a;intro w hS a hk
  have hM2 : ∀ c, (getL (setL m9 key' (.int .i64 ((cntK key' (ks.take i) : Int) + 1))) c).getD (.int .i64 0) = .int .i64 (cntK c (ks.take (i + 1)) : Int) := by
   intro c
   rw [getL_set, hcs c]
   by_cases e : c = key'
   ·subst e;rw [if_pos rfl, if_pos rfl];simp
   ·rw [if_neg e, if_neg (fun h => e h.symm)];simpa using hM c
  by_cases hne : key' = ⟨#[]⟩
  ·(repeat' (first|((first|refine wx1 ?_|refine wx2 ?_ ?_<;>intro hp|refine s_end hk ?_)<;>(clear hk a;intro a hk))|((first|refine wx3 ?_;intro w b|refine wx4 ?_;intro w|refine wx5 ?_;intro w v);clear hk hS a;intro hS a hk)|refine wx0 ?_|fail))
   exact ⟨hil, _, hk.sd, hS.sb, hM2, fun c hc => by rw [hcs c, if_neg (fun h => hc (by rw [← h];exact hne))];exact hO c hc⟩
  ·(repeat' (first|((first|refine wx1 ?_|refine wx2 ?_ ?_<;>intro hp|refine s_end hk ?_)<;>(clear hk a;intro a hk))|((first|refine wx3 ?_;intro w b|refine wx4 ?_;intro w|refine wx5 ?_;intro w v);clear hk hS a;intro hS a hk)|refine wx0 ?_|fail))
   refine sg hk (g_lookup (k := key') hk (hS.rd (A := mapH encSt mv _) atx) ?_ (mT rfl) keySt (oT rfl));clear hk a;intro a hk
   rw [hM2 key'] at hk
   have hck : cntK key' (ks.take (i + 1)) = cntK key' (ks.take i) + 1 := by rw [hcs key', if_pos rfl]
   (repeat' (first|((first|refine wx1 ?_|refine wx2 ?_ ?_<;>intro hp|refine s_end hk ?_)<;>(clear hk a;intro a hk))|((first|refine wx3 ?_;intro w b|refine wx4 ?_;intro w|refine wx5 ?_;intro w v);clear hk hS a;intro hS a hk)|refine wx0 ?_|fail))
   ·exact done1 hk (h := ⟨by rw [twc_true hne (j := i + 1) (by omega)], hS.nil⟩)
   ·refine ⟨hil, _, hk.sd, hS.sb, hM2, fun c hc => ?_⟩
    by_cases e : key' = c
    ·subst e;omega
    ·rw [hcs c, if_neg e];exact hO c hc
 ·have : i = ks.length := by omega
  subst this
  rw [List.take_length] at hO
  (repeat' (first|((first|refine wx1 ?_|refine wx2 ?_ ?_<;>intro hp|refine s_end hk ?_)<;>(clear hk a;intro a hk))|((first|refine wx3 ?_;intro w b|refine wx4 ?_;intro w|refine wx5 ?_;intro w v);clear hk hS a;intro hS a hk)|refine wx0 ?_|fail))
  exact done1 hk (h := ⟨by rw [twc_false hO], hS.nil⟩)
theorem chk_bnd : ∀ (n : Nat) (t : Tree) (deep depth left : Int), SizeOf.sizeOf t < n → left - cnt t ≤ (chkT t deep depth left).2 ∧ (chkT t deep depth left).2 ≤ left
 | 0, _, _, _, _, h => by omega
 | n + 1, .mk k tag key text cl al sl o kids, deep, depth, left, h => by
  have hk : ∀ t ∈ kids, ∀ deep depth left, left - cnt t ≤ (chkT t deep depth left).2 ∧ (chkT t deep depth left).2 ≤ left := fun t ht deep depth left => chk_bnd n t deep depth left (by have := kid_lt (k := k) (tag := tag) (key := key) (text := text) (cl := cl) (at_ := al) (st := sl) (o := o) ht;omega)
  have hL : ∀ (ts : List Tree), (∀ t ∈ ts, ∀ deep depth left, left - cnt t ≤ (chkT t deep depth left).2 ∧ (chkT t deep depth left).2 ≤ left) → ∀ deep depth left, left - cntL ts ≤ (chkL ts deep depth left).2 ∧ (chkL ts deep depth left).2 ≤ left := by
   intro ts
   induction ts with
   | nil => intro _ deep depth left;simp [chkL, cntL]
   | cons t ts ih =>
    intro hh deep depth left
    have h1 := hh t (by simp) deep depth left
    have h2 := ih (fun t ht => hh t (by simp [ht])) deep depth (chkT t deep depth left).2
    rw [chkL]
    simp only [cntL]
    split <;> omega
  have := hL kids hk (deep + 1) depth (left - 1)
  rw [chkT]
  simp only [cnt]
  split
  ·simp only;omega
  ·split
   ·simp only;omega
   ·split
    ·simp only;omega
    ·split
     ·simp only;omega
     ·split
      ·simp only;omega
      ·omega
theorem chkL_bnd (ts : List Tree) (deep depth left : Int) : left - cntL ts ≤ (chkL ts deep depth left).2 ∧ (chkL ts deep depth left).2 ≤ left := by
 induction ts generalizing left with
 | nil => simp [chkL, cntL]
 | cons t ts ih =>
  have h1 := chk_bnd _ t deep depth left (Nat.lt_succ_self _)
  have h2 := ih (chkT t deep depth left).2
  rw [chkL]
  simp only [cntL]
  split <;> omega
end Go.Proofs.YtnjmonkehjlaoaaGreatDoor
namespace Go.Proofs.YtnjmonkehjlaoaaGreatDoor
open Go.RowKit
theorem tw_yes {ks : List ByteArray} {i j : Nat} {c : ByteArray} (hi : ks[i]? = some c) (hj : ks[j]? = some c) (hji : j < i) (hc : c ≠ ⟨#[]⟩) : twcB ks = true := by
 refine twc_true (j := i + 1) hc ?_
 rw [count_snoc hi, if_pos rfl]
 have : 0 < cntK c (ks.take i) := by
  refine List.countP_pos_iff.2 ⟨c, ?_, decide_eq_true rfl⟩
  have h2 : (ks.take i)[j]? = some c := by rw [List.getElem?_take, if_pos hji];exact hj
  exact List.mem_of_getElem? h2
 omega
theorem tw_no {ks : List ByteArray} (h : ∀ i, i < ks.length → ∀ c, ks[i]? = some c → c ≠ ⟨#[]⟩ → ∀ j, j < i → ks[j]? ≠ some c) : twcB ks = false := by
 refine twc_false (fun c hc => ?_)
 have key : ∀ n, n ≤ ks.length → cntK c (ks.take n) ≤ 1 := by
  intro n
  induction n with
  | zero => intro _;rw [List.take_zero];exact Nat.zero_le _
  | succ n ih =>
   intro hn
   have hx : ks[n]? = some (ks[n]'(by omega)) := List.getElem?_eq_getElem (by omega)
   rw [count_snoc hx]
   have h1 := ih (by omega)
   by_cases e : ks[n]'(by omega) = c
   ·rw [if_pos e]
    have h0 : cntK c (ks.take n) = 0 := by
     refine List.countP_eq_zero.2 (fun x hx' => ?_)
     intro hxc
     have hxc := of_decide_eq_true hxc
     obtain ⟨j, hj⟩ := List.getElem?_of_mem hx'
     rw [List.getElem?_take] at hj
     split at hj
     ·rename_i hjn
      rw [hxc] at hj
      rw [e] at hx
      exact h n (by omega) c hx hc j hjn hj
     ·cases hj
    omega
   ·rw [if_neg e];omega
 have := key ks.length (Nat.le_refl _)
 rwa [List.take_length] at this
set_option maxRecDepth 100000
attribute [local irreducible] Go.Code.wpIn Go.wpListIn Go.Calls Gives Go.Exit.then Go.Exit.inBlock Done ObxE
set_option maxHeartbeats 16000000 in
theorem rcheck_any (depth : Int) : ∀ (n : Nat) (t : Tree) (h : NdH) (w0 : World) (deep left : Int), SizeOf.sizeOf t < n → FitsW t → Siz 1000 t → TrR w0 t h → -1000000000 ≤ left - cnt t → left ≤ 1000000000 → -1000000000 ≤ deep → deep + cnt t ≤ 1000000000 →
  Calls Tryz.prog 32 #[ndV h, .int .i64 deep, .int .i64 depth, .int .i64 left] w0 (Ret fun v w => v = .tuple #[.int .i64 (chkT t deep depth left).2, .int .i64 (chkT t deep depth left).1] ∧ St w0 [] w)
 | 0, _, _, _, _, _, hn, _, _, _, _, _, _, _ => by omega
 | n + 1, t, h, w0, deep, left, hn, hf, hz, hr, b1, b2, b3, b4 => by
  have ih := rcheck_any depth n
  have hr0 := hr
  obtain ⟨k, tag, key, text, cl, al, sl, e, lv, m, d, p, q, kids, a1, m1, a2, m2, a3, m3, a4, m4, H, rfl, rfl, c1, c2, c3, c4, hF⟩ := hr.split
  obtain ⟨l1, l2, l3, l4, l5⟩ := hf
  obtain ⟨z1, z2, z3, z4, z5, z6, z7⟩ := hz
  have hHk : H.length = kids.length := hF.1
  have hnz := Siz.names z4 z5 z6
  have hcn : (cnt (.mk k tag key text cl al sl (e, lv, m, d, p, q) kids) : Int) = cntL kids + 1 := by simp only [cnt];omega
  rw [hcn] at b1 b4
  have hnl : (namesL cl al sl).length = cl.length + al.length + sl.length := by unfold namesL;rw [List.length_append, List.length_append, List.length_map, List.length_map]
  have hck : chkT (.mk k tag key text cl al sl (e, lv, m, d, p, q) kids) deep depth left = if depth < deep then (7, left - 1)
   else if left - 1 < 0 then (8, left - 1)
   else if mayB k tag key text cl al sl (e, lv, m, d, p, q) kids = false then (4, left - 1)
   else if (namesL cl al sl).any rsvS = true then (6, left - 1)
   else if twcB (kids.map Tree.key) = true then (5, left - 1)
   else chkL kids (deep + 1) depth (left - 1) := by rw [chkT]
  rw [hck]
  clear hck hcn
  have hma := fun w0 c1 c2 c3 c4 hF hr => rmay_any k tag key text cl al sl e lv m d p q kids a1 a2 a3 a4 m1 m2 m3 m4 H w0 c1 c2 c3 c4 hF l1 l2 l3 l4 hr z1 z2 z3 (fun x hx => (z5 x hx).2) hnz
  have hnn := fun w0 hr => names07W_any (.mk k tag key text cl al sl (e, lv, m, d, p, q) kids) (k, tag, key, text, ⟨a1, cl.length, m1⟩, ⟨a2, al.length, m2⟩, ⟨a3, sl.length, m3⟩, (e, lv, m, d, p, q), ⟨a4, H.length, m4⟩) w0 hr cl al sl ⟨by omega, by omega, by omega⟩ rfl
  generalize mayB k tag key text cl al sl (e, lv, m, d, p, q) kids = bm at *
  show Calls Tryz.prog 32 #[.agg #[.int .i64 k, .string tag, .string key, .string text, .slice a1 cl.length m1, .slice a2 al.length m2, .slice a3 sl.length m3, .int .i64 e, .int .i64 lv, .int .i64 m, .int .i64 d, .bool p, .bool q, .slice a4 H.length m4], .int .i64 deep, .int .i64 depth, .int .i64 left] w0 _
  refine enter Tryz.func32 rfl Tryz.ntmps32 rfl (fun a hk => ?_);have hS := St.refl w0
  refine wpIn_seq ?_;refine wpIn_region_lit ?_
  refine st_box hk hS ?_;clear hk hS a;intro w b1 hS a hk
  by_cases hd : depth < deep
  ·rw [if_pos hd]
   (repeat' (first|((first|refine wx1 ?_|refine wx2 ?_ ?_<;>intro hp|refine s_end hk ?_)<;>(clear hk a;intro a hk))|((first|refine wx3 ?_;intro w b|refine wx4 ?_;intro w|refine wx5 ?_;intro w v);clear hk hS a;intro hS a hk)|refine wx0 ?_|fail))
   exact done2 hk (h := ⟨rfl, hS.nil⟩)
  ·rw [if_neg hd]
   by_cases hl : left - 1 < 0
   ·rw [if_pos hl]
    (repeat' (first|((first|refine wx1 ?_|refine wx2 ?_ ?_<;>intro hp|refine s_end hk ?_)<;>(clear hk a;intro a hk))|((first|refine wx3 ?_;intro w b|refine wx4 ?_;intro w|refine wx5 ?_;intro w v);clear hk hS a;intro hS a hk)|refine wx0 ?_|fail))
    exact done2 hk (h := ⟨rfl, hS.nil⟩)
   ·rw [if_neg hl]
    (repeat' (first|((first|refine wx1 ?_|refine wx2 ?_ ?_<;>intro hp|refine s_end hk ?_)<;>(clear hk a;intro a hk))|((first|refine wx3 ?_;intro w b|refine wx4 ?_;intro w|refine wx5 ?_;intro w v);clear hk hS a;intro hS a hk)|refine wx0 ?_|fail))
    refine sg hk (g_callO hk (hf := by kernel_rfl) (hc := hma _ (hS.rdT c1) (hS.rdT c2) (hS.rdT c3) (hS.rdT c4) (hS.rdFo hF) (hS.rdTr hr0)) (h := ?_));clear hk a;rintro _ w ⟨rfl, hS1⟩ a hk;replace hS := hS.call0 hS1;clear hS1
    clear hma
    cases bm with
    | false =>
     rw [if_pos rfl]
     (repeat' (first|((first|refine wx1 ?_|refine wx2 ?_ ?_<;>intro hp|refine s_end hk ?_)<;>(clear hk a;intro a hk))|((first|refine wx3 ?_;intro w b|refine wx4 ?_;intro w|refine wx5 ?_;intro w v);clear hk hS a;intro hS a hk)|refine wx0 ?_|fail))
     exact done2 hk (h := ⟨rfl, hS.nil⟩)
    | true =>
     rw [if_neg (by decide)]
     (repeat' (first|((first|refine wx1 ?_|refine wx2 ?_ ?_<;>intro hp|refine s_end hk ?_)<;>(clear hk a;intro a hk))|((first|refine wx3 ?_;intro w b|refine wx4 ?_;intro w|refine wx5 ?_;intro w v);clear hk hS a;intro hS a hk)|refine wx0 ?_|fail))
     refine sg hk (g_callO hk (hf := by kernel_rfl) (hc := hnn _ (hS.rdTr hr0)) (h := ?_));clear hk a;rintro vn w hS1 a hk;replace hS := hS.call hS1;clear hS1
     rw [List.cons_append, List.nil_append] at hS
     clear hnn
     generalize namesL cl al sl = N at *
     have hNv : SlT N vn w := OwT.rd (hS.rd (A := OwT 9 N vn) atx)
     (repeat' (first|((first|refine wx1 ?_|refine wx2 ?_ ?_<;>intro hp|refine s_end hk ?_)<;>(clear hk a;intro a hk))|((first|refine wx3 ?_;intro w b|refine wx4 ?_;intro w|refine wx5 ?_;intro w v);clear hk hS a;intro hS a hk)|refine wx0 ?_|fail))
     clear hNv
     replace hk := Kn.kp [1, 2, 3, 4, 34, 35, 36] hk
     refine wp_for N.length (fun i _ => [(36, .int .i64 (i : Int))]) (fun _ _ => [OwT 9 N vn, pts b1 [.int .i64 k, .string tag, .string key, .string text, .slice a1 cl.length m1, .slice a2 al.length m2, .slice a3 sl.length m3, .int .i64 e, .int .i64 lv, .int .i64 m, .int .i64 d, .bool p, .bool q, .slice a4 H.length m4] 42]) (fun i _ => (N.take i).any rsvS = false) () hk skx hS (by simp) ?_
     clear hk hS a
     rintro i - a w hi hk hS hA
     by_cases hil : i < N.length
     ·obtain ⟨x, hx⟩ : ∃ x, N[i]? = some x := ⟨_, List.getElem?_eq_getElem hil⟩
      have hst : (N.take (i + 1)).any rsvS = ((N.take i).any rsvS || rsvS x) := by rw [take_snoc hx];simp
      have hNv : SlT N vn w := OwT.rd (hS.rd (A := OwT 9 N vn) atx)
      (repeat' (first|((first|refine wx1 ?_|refine wx2 ?_ ?_<;>intro hp|refine s_end hk ?_)<;>(clear hk a;intro a hk))|((first|refine wx3 ?_;intro w b|refine wx4 ?_;intro w|refine wx5 ?_;intro w v);clear hk hS a;intro hS a hk)|refine wx0 ?_|fail))
      refine sg hk (g_callO hk (hf := by kernel_rfl) (hc := rreserved_any x _) (h := ?_));clear hk a;rintro _ w ⟨rfl, hS1⟩ a hk;replace hS := hS.call0 hS1;clear hS1
      cases hb : rsvS x with
      | true =>
       rw [hb] at hk
       rw [if_pos (show N.any rsvS = true from List.any_eq_true.2 ⟨x, List.mem_of_getElem? hx, hb⟩)]
       (repeat' (first|((first|refine wx1 ?_|refine wx2 ?_ ?_<;>intro hp|refine s_end hk ?_)<;>(clear hk a;intro a hk))|((first|refine wx3 ?_;intro w b|refine wx4 ?_;intro w|refine wx5 ?_;intro w v);clear hk hS a;intro hS a hk)|refine wx0 ?_|fail))
       exact done2 hk (h := ⟨rfl, hS.nil⟩)
      | false =>
       rw [hb] at hk
       (repeat' (first|((first|refine wx1 ?_|refine wx2 ?_ ?_<;>intro hp|refine s_end hk ?_)<;>(clear hk a;intro a hk))|((first|refine wx3 ?_;intro w b|refine wx4 ?_;intro w|refine wx5 ?_;intro w v);clear hk hS a;intro hS a hk)|refine wx0 ?_|fail))
       exact ⟨hil, (), hk.sd, hS, by rw [hst, hA, hb];rfl⟩
     ·have hii : i = N.length := by omega
      subst hii
      rw [List.take_length] at hA
      rw [if_neg (by rw [hA];decide)]
      clear hil hi
      have hv4 := hS.rdT c4
      (repeat' (first|((first|refine wx1 ?_|refine wx2 ?_ ?_<;>intro hp|refine s_end hk ?_)<;>(clear hk a;intro a hk))|((first|refine wx3 ?_;intro w b|refine wx4 ?_;intro w|refine wx5 ?_;intro w v);clear hk hS a;intro hS a hk)|refine wx0 ?_|fail))
      replace hk := Kn.kp [1, 2, 3, 4, 45, 46, 47] hk
      refine wp_for H.length (fun i _ => [(47, .int .i64 (i : Int))]) (fun _ _ => [pts b1 [.int .i64 k, .string tag, .string key, .string text, .slice a1 cl.length m1, .slice a2 al.length m2, .slice a3 sl.length m3, .int .i64 e, .int .i64 lv, .int .i64 m, .int .i64 d, .bool p, .bool q, .slice a4 H.length m4] 42]) (fun i _ => ∀ i', i' < i → ∀ c, (kids.map Tree.key)[i']? = some c → c ≠ ⟨#[]⟩ → ∀ j, j < i' → (kids.map Tree.key)[j]? ≠ some c) () hk skx (hS.sub (.cons atx sbx)) (fun i' h => by omega) ?_
      clear hk hS a hv4
      rintro i - a w hi hk hS hT
      have hv4 := hS.rdT c4
      by_cases hil : i < H.length
      ·obtain ⟨tk, htk⟩ : ∃ t, kids[i]? = some t := ⟨_, List.getElem?_eq_getElem (by omega)⟩
       obtain ⟨hd0, hx⟩ : ∃ x, H[i]? = some x := ⟨_, List.getElem?_eq_getElem hil⟩
       have hTr := hF.2 i tk hd0 htk hx
       obtain ⟨k0, tag0, key0, text0, cl0, al0, sl0, e0, lv0, m0, d0, p0, q0, kids0, x1, x3, y1, y3, zz1, zz3, u1, u3, H0, rfl, rfl, -⟩ := hTr.split
       have hki : (kids.map Tree.key)[i]? = some key0 := by rw [List.getElem?_map, htk];rfl
       (repeat' (first|((first|refine wx1 ?_|refine wx2 ?_ ?_<;>intro hp|refine s_end hk ?_)<;>(clear hk a;intro a hk))|((first|refine wx3 ?_;intro w b|refine wx4 ?_;intro w|refine wx5 ?_;intro w v);clear hk hS a;intro hS a hk)|refine wx0 ?_|fail))
       rename Nat => b13
       refine sg hk (g_partT (j := i) hk ?_ (ht := eT rfl) (hs := (by first | exact St.rdT hS (by assumption) | exact OwT.rd (hS.rd (A := OwT _ _ _) atx) | assumption)) (hE := zT rfl) (hj := by omega));clear hk a;intro vp hvp a hk
       have hvp1 := hvp w (hS.rdT c4)
       have hHt : (H.take i).length = i := by rw [List.length_take];omega
       (repeat' (first|((first|refine wx1 ?_|refine wx2 ?_ ?_<;>intro hp|refine s_end hk ?_)<;>(clear hk a;intro a hk))|((first|refine wx3 ?_;intro w b|refine wx4 ?_;intro w|refine wx5 ?_;intro w v);clear hk hS a;intro hS a hk)|refine wx0 ?_|fail))
       rw [hHt] at hk
       replace hk := Kn.kp [1, 2, 3, 4, 13, 45, 46, 47, 55, 56, 57] hk
       refine wp_for i (fun j _ => [(57, .int .i64 (j : Int))]) (fun _ _ => [pts b13 [.int .i64 k0, .string tag0, .string key0, .string text0, .slice x1 cl0.length x3, .slice y1 al0.length y3, .slice zz1 sl0.length zz3, .int .i64 e0, .int .i64 lv0, .int .i64 m0, .int .i64 d0, .bool p0, .bool q0, .slice u1 H0.length u3] 42, pts b1 [.int .i64 k, .string tag, .string key, .string text, .slice a1 cl.length m1, .slice a2 al.length m2, .slice a3 sl.length m3, .int .i64 e, .int .i64 lv, .int .i64 m, .int .i64 d, .bool p, .bool q, .slice a4 H.length m4] 42]) (fun j _ => key0 ≠ ⟨#[]⟩ → ∀ j', j' < j → (kids.map Tree.key)[j']? ≠ some key0) () hk skx (hS.sub (.cons atx (.cons atx sbx))) (fun _ j' h => by omega) ?_
       clear hk hS a hvp1
       rintro j - a w hj hk hS hJ
       have hvp1 := hvp w (hS.rdT c4)
       by_cases hjl : j < i
       ·obtain ⟨tj, htj⟩ : ∃ t, kids[j]? = some t := ⟨_, List.getElem?_eq_getElem (by omega)⟩
        obtain ⟨hdj, hxj⟩ : ∃ x, H[j]? = some x := ⟨_, List.getElem?_eq_getElem (by omega)⟩
        have hTj := hF.2 j tj hdj htj hxj
        have hxt : (H.take i)[j]? = some hdj := by rw [List.getElem?_take, if_pos hjl];exact hxj
        obtain ⟨k9, tag9, key9, text9, cl9, al9, sl9, e9, lv9, m9, d9, p9, q9, kids9, x91, x93, y91, y93, z91, z93, u91, u93, H9, rfl, rfl, -⟩ := hTj.split
        have hkj : (kids.map Tree.key)[j]? = some key9 := by rw [List.getElem?_map, htj];rfl
        by_cases hke : key0 = ⟨#[]⟩
        ·(repeat' (first|((first|refine wx1 ?_|refine wx2 ?_ ?_<;>intro hp|refine s_end hk ?_)<;>(clear hk a;intro a hk))|((first|refine wx3 ?_;intro w b|refine wx4 ?_;intro w|refine wx5 ?_;intro w v);clear hk hS a;intro hS a hk)|refine wx0 ?_|fail))
         exact ⟨hjl, (), hk.sd, hS.sub (.cons atx (.cons atx sbx)), fun h => absurd hke h⟩
        ·by_cases hkk : key0 = key9
         ·rw [if_pos (tw_yes hki (by rw [hkj, hkk]) hjl hke)]
          (repeat' (first|((first|refine wx1 ?_|refine wx2 ?_ ?_<;>intro hp|refine s_end hk ?_)<;>(clear hk a;intro a hk))|((first|refine wx3 ?_;intro w b|refine wx4 ?_;intro w|refine wx5 ?_;intro w v);clear hk hS a;intro hS a hk)|refine wx0 ?_|fail))
          exact done2 hk (h := ⟨rfl, hS.nil⟩)
         ·(repeat' (first|((first|refine wx1 ?_|refine wx2 ?_ ?_<;>intro hp|refine s_end hk ?_)<;>(clear hk a;intro a hk))|((first|refine wx3 ?_;intro w b|refine wx4 ?_;intro w|refine wx5 ?_;intro w v);clear hk hS a;intro hS a hk)|refine wx0 ?_|fail))
          refine ⟨hjl, (), hk.sd, hS.sub (.cons atx (.cons atx sbx)), fun h j' hj' => ?_⟩
          by_cases e : j' = j
          ·subst e;rw [hkj];exact fun h => hkk (by injection h with h;exact h.symm)
          ·exact hJ h j' (by omega)
       ·have hjj : j = i := by omega
        subst hjj
        (repeat' (first|((first|refine wx1 ?_|refine wx2 ?_ ?_<;>intro hp|refine s_end hk ?_)<;>(clear hk a;intro a hk))|((first|refine wx3 ?_;intro w b|refine wx4 ?_;intro w|refine wx5 ?_;intro w v);clear hk hS a;intro hS a hk)|refine wx0 ?_|fail))
        refine ⟨hil, (), hk.sd, hS.sub (.cons atx sbx), fun i' hi' c hc hne j' hj' => ?_⟩
        by_cases e : i' = j
        ·subst e
         rw [hki] at hc
         cases hc
         exact hJ hne j' hj'
        ·exact hT i' (by omega) c hc hne j' hj'
      ·have hii : i = kids.length := by omega
       subst hii
       have htw : twcB (kids.map Tree.key) = false := tw_no (fun i' hi' => hT i' (by rw [List.length_map] at hi';exact hi'))
       rw [htw, if_neg (by decide)]
       (repeat' (first|((first|refine wx1 ?_|refine wx2 ?_ ?_<;>intro hp|refine s_end hk ?_)<;>(clear hk a;intro a hk))|((first|refine wx3 ?_;intro w b|refine wx4 ?_;intro w|refine wx5 ?_;intro w v);clear hk hS a;intro hS a hk)|refine wx0 ?_|fail))
       replace hk := Kn.kp [1, 2, 3, 75, 76, 77] hk
       refine wp_for H.length (fun i x => [(3, .int .i64 x), (77, .int .i64 (i : Int))]) (fun i x => []) (fun i x => chkL (kids.take i) (deep + 1) depth (left - 1) = (0, x)) (left - 1) hk skx hS.nil (by rw [List.take_zero, chkL]) ?_
       clear hk hS a hv4
       rintro i x a w hi hk hS hC
       have hv4 := hS.rdT c4
       by_cases hil : i < H.length
       ·obtain ⟨tk, htk⟩ : ∃ t, kids[i]? = some t := ⟨_, List.getElem?_eq_getElem (by omega)⟩
        obtain ⟨hd0, hx⟩ : ∃ x, H[i]? = some x := ⟨_, List.getElem?_eq_getElem hil⟩
        have hTr := hF.2 i tk hd0 htk hx
        have hfk := l5 tk (List.mem_of_getElem? htk)
        have hzk := z7 tk (List.mem_of_getElem? htk)
        have hlt : SizeOf.sizeOf tk < n := by have := kid_lt (k := k) (tag := tag) (key := key) (text := text) (cl := cl) (at_ := al) (st := sl) (o := (e, lv, m, d, p, q)) (List.mem_of_getElem? htk);omega
        have hbd := chkL_bnd (kids.take i) (deep + 1) depth (left - 1)
        rw [hC] at hbd
        simp only at hbd
        have hct : cntL (kids.take i) + cnt tk ≤ cntL kids := by
         have h1 := cntL_app (kids.take (i + 1)) (kids.drop (i + 1))
         rw [List.take_append_drop, take_snoc htk, cntL_app] at h1
         simp only [cntL] at h1
         omega
        have hsn := chkL_snoc (kids.take i) tk (deep + 1) depth (left - 1) (by rw [hC])
        rw [hC, ← take_snoc htk] at hsn
        simp only at hsn
        have hcp := cnt_pos tk
        obtain ⟨k0, tag0, key0, text0, ⟨x1, x2, x3⟩, ⟨y1, y2, y3⟩, ⟨zz1, zz2, zz3⟩, ⟨e0, lv0, m0, d0, p0, q0⟩, ⟨u1, u2, u3⟩⟩ := hd0
        (repeat' (first|((first|refine wx1 ?_|refine wx2 ?_ ?_<;>intro hp|refine s_end hk ?_)<;>(clear hk a;intro a hk))|((first|refine wx3 ?_;intro w b|refine wx4 ?_;intro w|refine wx5 ?_;intro w v);clear hk hS a;intro hS a hk)|refine wx0 ?_|fail))
        refine sg hk (g_callO hk (hf := by kernel_rfl) (hc := ih tk (k0, tag0, key0, text0, ⟨x1, x2, x3⟩, ⟨y1, y2, y3⟩, ⟨zz1, zz2, zz3⟩, (e0, lv0, m0, d0, p0, q0), ⟨u1, u2, u3⟩) _ (deep + 1) x hlt hfk hzk (hS.rdTr hTr) (by omega) (by omega) (by omega) (by omega)) (h := ?_));clear hk a;rintro _ w ⟨rfl, hS1⟩ a hk;replace hS := hS.call0 hS1;clear hS1
        by_cases hne : (chkT tk (deep + 1) depth x).1 = 0
        ·(repeat' (first|((first|refine wx1 ?_|refine wx2 ?_ ?_<;>intro hp|refine s_end hk ?_)<;>(clear hk a;intro a hk))|((first|refine wx3 ?_;intro w b|refine wx4 ?_;intro w|refine wx5 ?_;intro w v);clear hk hS a;intro hS a hk)|refine wx0 ?_|fail))
         exact ⟨hil, (chkT tk (deep + 1) depth x).2, hk.sd, hS.nil, by rw [hsn];exact Prod.ext hne rfl⟩
        ·(repeat' (first|((first|refine wx1 ?_|refine wx2 ?_ ?_<;>intro hp|refine s_end hk ?_)<;>(clear hk a;intro a hk))|((first|refine wx3 ?_;intro w b|refine wx4 ?_;intro w|refine wx5 ?_;intro w v);clear hk hS a;intro hS a hk)|refine wx0 ?_|fail))
         have hfin : chkL kids (deep + 1) depth (left - 1) = chkT tk (deep + 1) depth x := by
          have h1 := chkL_app (kids.take (i + 1)) (kids.drop (i + 1)) (deep + 1) depth (left - 1)
          rw [List.take_append_drop, hsn, if_neg hne] at h1
          exact h1
         rw [hfin]
         exact done2 hk (h := ⟨rfl, hS.nil⟩)
       ·have hii : i = kids.length := by omega
        subst hii
        rw [List.take_length] at hC
        (repeat' (first|((first|refine wx1 ?_|refine wx2 ?_ ?_<;>intro hp|refine s_end hk ?_)<;>(clear hk a;intro a hk))|((first|refine wx3 ?_;intro w b|refine wx4 ?_;intro w|refine wx5 ?_;intro w v);clear hk hS a;intro hS a hk)|refine wx0 ?_|fail))
        rw [hC]
        exact done2 hk (h := ⟨rfl, hS.nil⟩)
theorem rCheck_any (t : Tree) (h : NdH) (depth nodes : Int) (w0 : World) (hf : FitsW t) (hz : Siz 1000 t) (hc : cnt t ≤ 1000000) (hr : TrR w0 t h) :
  Calls Tryz.prog 9 #[ndV h, .int .i64 depth, .int .i64 nodes] w0 (Ret fun v w => v = .int .i64 (chkT t 1 (max 1 (min depth 20)) (max 1 (min nodes 4096))).1 ∧ St w0 [] w) := by
 have hm := fun w0 hr => rcheck_any (max 1 (min depth 20)) _ t h w0 1 (max 1 (min nodes 4096)) (Nat.lt_succ_self _) hf hz hr (by omega) (by omega) (by omega) (by omega)
 obtain ⟨k, tag, key, text, cl, al, sl, e, lv, m, d, p, q, kids, a1, m1, a2, m2, a3, m3, a4, m4, H, rfl, rfl, -⟩ := hr.split
 show Calls Tryz.prog 9 #[.agg #[.int .i64 k, .string tag, .string key, .string text, .slice a1 cl.length m1, .slice a2 al.length m2, .slice a3 sl.length m3, .int .i64 e, .int .i64 lv, .int .i64 m, .int .i64 d, .bool p, .bool q, .slice a4 H.length m4], .int .i64 depth, .int .i64 nodes] w0 _
 refine enter Tryz.func9 rfl Tryz.ntmps9 rfl (fun a hk => ?_);have hS := St.refl w0
 (repeat' (first|((first|refine wx1 ?_|refine wx2 ?_ ?_<;>intro hp|refine s_end hk ?_)<;>(clear hk a;intro a hk))|((first|refine wx3 ?_;intro w b|refine wx4 ?_;intro w|refine wx5 ?_;intro w v);clear hk hS a;intro hS a hk)|refine wx0 ?_|fail))
 refine sg hk (g_callO hk (hf := by kernel_rfl) (hc := hm _ (hS.rdTr hr)) (h := ?_));clear hk a;rintro _ w ⟨rfl, hS1⟩ a hk;replace hS := hS.call0 hS1;clear hS1
 (repeat' (first|((first|refine wx1 ?_|refine wx2 ?_ ?_<;>intro hp|refine s_end hk ?_)<;>(clear hk a;intro a hk))|((first|refine wx3 ?_;intro w b|refine wx4 ?_;intro w|refine wx5 ?_;intro w v);clear hk hS a;intro hS a hk)|refine wx0 ?_|fail))
 exact done1 hk (h := ⟨rfl, hS.nil⟩)
end Go.Proofs.YtnjmonkehjlaoaaGreatDoor
