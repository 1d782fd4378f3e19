/- Layer 7: may a node be, by itself? The reference. Layer 7: which views may be, by themselves: the program. -/
import Derived.Test.YtnjmonkehjlaoaaGreatDoorG11
import Derived.Test.YtnjmonkehjlaoaaGreatDoorG13
import Derived.Test.YtnjmonkehjlaoaaGreatDoorG09
set_option linter.all false
namespace Go.Proofs.YtnjmonkehjlaoaaGreatDoor
open Go.RowKit
structure MayP (k : Int) (tag key text : ByteArray) (cl : List ByteArray) (al : List PrS) (sl : List PrI) (e lv m d : Int) (p q : Bool) (kids : List Tree) : Prop where
 kk : 2 ≤ k ∧ k ≤ 4
 tx : text = ⟨#[]⟩
 tg : nameS tag = true
 ky : key = ⟨#[]⟩ ∨ keyS key = true
 nm : ∀ c ∈ namesL cl al sl, nameS c = true
 va : ∀ x ∈ al, valS x.2 = true
 st : ∀ x ∈ sl, -2147483648 ≤ x.2 ∧ x.2 ≤ 2147483647
 o2 : k = 2 → ((e, lv, m, d, p, q) : Opt) = (0, 0, 0, 0, false, false)
 la : (0 ≤ e ∧ e ≤ 1000) ∧ (0 ≤ lv ∧ lv ≤ 1000) ∧ (0 ≤ m ∧ m ≤ 1000)
 d3 : k = 3 → d = 0
 d4 : k = 4 → m = 0 ∧ q = false ∧ 0 ≤ d ∧ d ≤ 2 ∧ kids.length ≤ 1
 kd : 2 < k → ∀ u ∈ kids, kidB u = true
theorem may_iff {k : Int} {tag key text : ByteArray} {cl : List ByteArray} {al : List PrS} {sl : List PrI} {e lv m d : Int} {p q : Bool} {kids : List Tree} (h1 : k ≠ 1) :
  mayB k tag key text cl al sl (e, lv, m, d, p, q) kids = true ↔ MayP k tag key text cl al sl e lv m d p q kids := by
 have hk : mayB k tag key text cl al sl (e, lv, m, d, p, q) kids = true ↔ (2 ≤ k ∧ k ≤ 4) ∧ text = ⟨#[]⟩ ∧ nameS tag = true ∧ (∀ c ∈ namesL cl al sl, nameS c = true) ∧ (key = ⟨#[]⟩ ∨ keyS key = true) ∧ ((∀ x ∈ al, valS x.2 = true) ∧ (∀ x ∈ sl, -2147483648 ≤ x.2 ∧ x.2 ≤ 2147483647)) ∧ optsB (e, lv, m, d, p, q) k = true ∧ keptB k kids = true := by
  unfold mayB valB
  rw [if_neg h1]
  by_cases hk : 2 ≤ k ∧ k ≤ 4
  ·rw [if_pos (by omega)]
   simp only [Bool.and_eq_true, decide_eq_true_eq, Bool.or_eq_true, List.all_eq_true]
   constructor
   ·rintro ⟨⟨⟨⟨⟨⟨x1, x2⟩, x3⟩, x4⟩, x5⟩, x6⟩, x7⟩
    exact ⟨hk, x1, x2, x3, x4, x5, x6, x7⟩
   ·rintro ⟨-, x1, x2, x3, x4, x5, x6, x7⟩
    exact ⟨⟨⟨⟨⟨⟨x1, x2⟩, x3⟩, x4⟩, x5⟩, x6⟩, x7⟩
  ·rw [if_neg (by omega)]
   exact ⟨(fun h => by cases h), fun h => absurd h.1 hk⟩
 rw [hk]
 have ho : optsB (e, lv, m, d, p, q) k = true ↔ (if k = 3 then (0 ≤ e ∧ e ≤ 1000) ∧ (0 ≤ lv ∧ lv ≤ 1000) ∧ (0 ≤ m ∧ m ≤ 1000) ∧ d = 0 else if k = 4 then (0 ≤ e ∧ e ≤ 1000) ∧ (0 ≤ lv ∧ lv ≤ 1000) ∧ m = 0 ∧ q = false ∧ 0 ≤ d ∧ d ≤ 2 else ((e, lv, m, d, p, q) : Opt) = (0, 0, 0, 0, false, false)) := by
  unfold optsB lasts
  by_cases h3 : k = 3
  ·rw [if_pos h3, if_pos h3]
   simp only [Bool.and_eq_true, decide_eq_true_eq, and_assoc]
  ·rw [if_neg h3, if_neg h3]
   by_cases h4 : k = 4
   ·rw [if_pos h4, if_pos h4]
    simp only [Bool.and_eq_true, decide_eq_true_eq, and_assoc, Bool.not_eq_true']
   ·rw [if_neg h4, if_neg h4, decide_eq_true_eq]
 have hp : keptB k kids = true ↔ k = 2 ∨ ((∀ u ∈ kids, kidB u = true) ∧ (k = 3 ∨ kids.length ≤ 1)) := by
  unfold keptB
  simp only [Bool.or_eq_true, Bool.and_eq_true, decide_eq_true_eq, List.all_eq_true]
 rw [ho, hp]
 constructor
 ·rintro ⟨x0, x1, x2, x3, x4, x5, x6, x7⟩
  by_cases h3 : k = 3
  ·rw [if_pos h3] at x6
   exact ⟨x0, x1, x2, x4, x3, x5.1, x5.2, fun h => by omega, ⟨x6.1, x6.2.1, x6.2.2.1⟩, fun _ => x6.2.2.2, fun h => by omega, fun h => (x7.resolve_left (by omega)).1⟩
  ·rw [if_neg h3] at x6
   by_cases h4 : k = 4
   ·rw [if_pos h4] at x6
    have x8 := x7.resolve_left (by omega)
    exact ⟨x0, x1, x2, x4, x3, x5.1, x5.2, fun h => by omega, ⟨x6.1, x6.2.1, by omega⟩, fun h => by omega, fun _ => ⟨x6.2.2.1, x6.2.2.2.1, x6.2.2.2.2.1, x6.2.2.2.2.2, x8.2.resolve_left h3⟩, fun h => x8.1⟩
   ·rw [if_neg h4] at x6
    have x9 := x6
    injection x9 with y1 y2
    injection y2 with y2 y3
    injection y3 with y3 y4
    subst y1 y2 y3
    exact ⟨x0, x1, x2, x4, x3, x5.1, x5.2, fun _ => x6, ⟨by omega, by omega, by omega⟩, fun h => by omega, fun h => by omega, fun h => by omega⟩
 ·intro h
  refine ⟨h.kk, h.tx, h.tg, h.nm, h.ky, ⟨h.va, h.st⟩, ?_, ?_⟩
  ·by_cases h3 : k = 3
   ·rw [if_pos h3];exact ⟨h.la.1, h.la.2.1, h.la.2.2, h.d3 h3⟩
   ·rw [if_neg h3]
    by_cases h4 : k = 4
    ·rw [if_pos h4]
     obtain ⟨y1, y2, y3, y4, -⟩ := h.d4 h4
     exact ⟨h.la.1, h.la.2.1, y1, y2, y3, y4⟩
    ·rw [if_neg h4];exact h.o2 (by have := h.kk;omega)
  ·by_cases h2 : k = 2
   ·exact .inl h2
   ·refine .inr ⟨h.kd (by have := h.kk;omega), ?_⟩
    by_cases h3 : k = 3
    ·exact .inl h3
    ·exact .inr (h.d4 (by have := h.kk;omega)).2.2.2.2
set_option maxRecDepth 100000
attribute [local irreducible] Go.Code.wpIn Go.wpListIn Go.Calls Gives Go.Exit.then Go.Exit.inBlock Done ObxE
set_option maxHeartbeats 4000000 in
theorem names07W_any (t : Tree) (h : NdH) (w0 : World) (hr : TrR w0 t h) (cl : List ByteArray) (al : List PrS) (sl : List PrI) (hl : cl.length ≤ 1000 ∧ al.length ≤ 1000 ∧ sl.length ≤ 1000) {k : Int} {tag key text : ByteArray} {o : Opt} {kids : List Tree} (ht : t = .mk k tag key text cl al sl o kids) :
  Calls Tryz.prog 54 #[ndV h] w0 (Ret fun v w => St w0 [OwT 9 (namesL cl al sl) v] w) := by
 obtain ⟨l1, l2, l3⟩ := hl
 obtain ⟨k, tag, key, text, cl', al', sl', e, lv, m, d, p, q, kids, a1, m1, a2, m2, a3, m3, a4, m4, H, rfl, rfl, c1, c2, c3, c4, hF⟩ := hr.split
 injection ht with _ _ _ _ i5 i6 i7 _ _
 subst i5 i6 i7
 show Calls Tryz.prog 54 #[.agg #[.int .i64 k, .string tag, .string key, .string text, .slice a1 cl'.length m1, .slice a2 al'.length m2, .slice a3 sl'.length m3, .int .i64 e, .int .i64 lv, .int .i64 m, .int .i64 d, .bool p, .bool q, .slice a4 H.length m4]] w0 _
 refine enter Tryz.func54 rfl Tryz.ntmps54 rfl (fun a hk => ?_);have hS := St.refl w0
 (repeat' (first|((first|refine wx1 ?_|refine wx2 ?_ ?_<;>intro hp|refine s_end hk ?_)<;>(clear hk a;intro a hk))|((first|refine wx3 ?_;intro w b|refine wx4 ?_;intro w|refine wx5 ?_;intro w v);clear hk hS a;intro hS a hk)|refine wx0 ?_|fail))
 rename Nat => b1
 refine sg hk (g_bs0 ByteArray hS ?_ (hT := eT rfl) (hE := zT rfl));clear hk hS a;intro w v0 hS a hk
 refine sg hk (g_field hk ?_ (fT rfl));clear hk a;intro a hk
 refine sg hk (g_own1 hk hS ?_ (aT rfl));clear hk a;intro a hk
 refine sg hk (g_appT (xs := ([] : List ByteArray)) (ys := cl') hk hS ?_ (hT := eT rfl) (hTx := eT rfl) (hE := zT rfl) (hz := oT rfl) (hzs := rfl) (hs := hS.rdT c1) (hby := bT rfl) (hbytes := by simp only [List.length_nil];omega) (h63 := by simp only [maxLen, List.length_nil];omega));clear hk hS a;intro w v1 hS a hk
 rw [List.nil_append] at hS
 (repeat' (first|((first|refine wx1 ?_|refine wx2 ?_ ?_<;>intro hp|refine s_end hk ?_)<;>(clear hk a;intro a hk))|((first|refine wx3 ?_;intro w b|refine wx4 ?_;intro w|refine wx5 ?_;intro w v);clear hk hS a;intro hS a hk)|refine wx0 ?_|fail))
 replace hk := Kn.kp [1, 3, 13, 14, 15] hk
 replace hS : St w0 [OwT 9 (cl' ++ (al'.take 0).map (·.1)) v1, pts b1 [.int .i64 k, .string tag, .string key, .string text, .slice a1 cl'.length m1, .slice a2 al'.length m2, .slice a3 sl'.length m3, .int .i64 e, .int .i64 lv, .int .i64 m, .int .i64 d, .bool p, .bool q, .slice a4 H.length m4] 42] w := by rw [List.take_zero, List.map_nil, List.append_nil];exact hS.sub (by (repeat (first | exact Sub.nil | exact Sub.refl | refine Sub.cons atx ?_)))
 refine wp_for al'.length (fun i v => [(3, v), (15, .int .i64 (i : Int))]) (fun i v => [OwT 9 (cl' ++ (al'.take i).map (·.1)) v, pts b1 [.int .i64 k, .string tag, .string key, .string text, .slice a1 cl'.length m1, .slice a2 al'.length m2, .slice a3 sl'.length m3, .int .i64 e, .int .i64 lv, .int .i64 m, .int .i64 d, .bool p, .bool q, .slice a4 H.length m4] 42]) (fun _ _ => True) v1 hk skx hS.sb trivial ?_
 clear hk hS a v0
 rintro i v3 a w hi hk hS -
 have hv2 := hS.rdT c2
 have hla : ((al'.take i).map (·.1)).length = i := by rw [List.length_map, List.length_take];omega
 have hlb : (cl' ++ (al'.take i).map (·.1)).length = cl'.length + i := by rw [List.length_append, hla]
 by_cases hil : i < al'.length
 ·obtain ⟨⟨nm, val⟩, hx⟩ : ∃ x, al'[i]? = some x := ⟨_, List.getElem?_eq_getElem hil⟩
  have hst : cl' ++ (al'.take (i + 1)).map (·.1) = cl' ++ (al'.take i).map (·.1) ++ [nm] := by rw [take_snoc hx, List.map_append, List.append_assoc];rfl
  generalize cl' ++ (al'.take i).map (·.1) = Y at *
  (repeat' (first|((first|refine wx1 ?_|refine wx2 ?_ ?_<;>intro hp|refine s_end hk ?_)<;>(clear hk a;intro a hk))|((first|refine wx3 ?_;intro w b|refine wx4 ?_;intro w|refine wx5 ?_;intro w v);clear hk hS a;intro hS a hk)|refine wx0 ?_|fail))
  rename Value => v4
  rw [← hst] at hS
  exact ⟨hil, v4, hk.sd, hS.sb, trivial⟩
 ·have hii : i = al'.length := by omega
  subst hii
  rw [List.take_length] at hS
  have c3' := hS.rdT c3
  (repeat' (first|((first|refine wx1 ?_|refine wx2 ?_ ?_<;>intro hp|refine s_end hk ?_)<;>(clear hk a;intro a hk))|((first|refine wx3 ?_;intro w b|refine wx4 ?_;intro w|refine wx5 ?_;intro w v);clear hk hS a;intro hS a hk)|refine wx0 ?_|fail))
  replace hk := Kn.kp [3, 26, 27, 28] hk
  replace hS : St w0 [OwT 9 (cl' ++ al'.map (·.1) ++ (sl'.take 0).map (·.1)) v3] w := by rw [List.take_zero, List.map_nil, List.append_nil];exact hS.sub (by (repeat (first | exact Sub.nil | exact Sub.refl | refine Sub.cons atx ?_)))
  refine wp_for sl'.length (fun i v => [(3, v), (28, .int .i64 (i : Int))]) (fun i v => [OwT 9 (cl' ++ al'.map (·.1) ++ (sl'.take i).map (·.1)) v]) (fun _ _ => True) v3 hk skx hS.sb trivial ?_
  clear hk hS a hv2 c3' hla hlb
  rintro i v3 a w hi hk hS -
  have hv2 := hS.rdT c3
  have hla : ((sl'.take i).map (·.1)).length = i := by rw [List.length_map, List.length_take];omega
  have hlb : (cl' ++ al'.map (·.1) ++ (sl'.take i).map (·.1)).length = cl'.length + al'.length + i := by rw [List.length_append, List.length_append, List.length_map, hla]
  by_cases hil : i < sl'.length
  ·obtain ⟨⟨nm, val⟩, hx⟩ : ∃ x, sl'[i]? = some x := ⟨_, List.getElem?_eq_getElem hil⟩
   have hst : cl' ++ al'.map (·.1) ++ (sl'.take (i + 1)).map (·.1) = cl' ++ al'.map (·.1) ++ (sl'.take i).map (·.1) ++ [nm] := by rw [take_snoc hx, List.map_append, ← List.append_assoc];rfl
   generalize cl' ++ al'.map (·.1) ++ (sl'.take i).map (·.1) = Y at *
   (repeat' (first|((first|refine wx1 ?_|refine wx2 ?_ ?_<;>intro hp|refine s_end hk ?_)<;>(clear hk a;intro a hk))|((first|refine wx3 ?_;intro w b|refine wx4 ?_;intro w|refine wx5 ?_;intro w v);clear hk hS a;intro hS a hk)|refine wx0 ?_|fail))
   rename Value => v4
   rw [← hst] at hS
   exact ⟨hil, v4, hk.sd, hS.sb, trivial⟩
  ·have hii : i = sl'.length := by omega
   subst hii
   rw [List.take_length] at hS
   (repeat' (first|((first|refine wx1 ?_|refine wx2 ?_ ?_<;>intro hp|refine s_end hk ?_)<;>(clear hk a;intro a hk))|((first|refine wx3 ?_;intro w b|refine wx4 ?_;intro w|refine wx5 ?_;intro w v);clear hk hS a;intro hS a hk)|refine wx0 ?_|fail))
   exact done1 hk (h := hS)
set_option maxHeartbeats 32000000 in
theorem rmay_any (k : Int) (tag key text : ByteArray) (cl : List ByteArray) (al : List PrS) (sl : List PrI) (e lv m d : Int) (p q : Bool) (kids : List Tree) (a1 a2 a3 a4 : Option Addr) (m1 m2 m3 m4 : Nat) (H : List NdH) (w0 : World) (c1 : SlT cl (.slice a1 cl.length m1) w0) (c2 : SlT al (.slice a2 al.length m2) w0) (c3 : SlT sl (.slice a3 sl.length m3) w0) (c4 : SlT H (.slice a4 H.length m4) w0) (hF : FoR w0 kids H) (l1 : cl.length ≤ 1000) (l2 : al.length ≤ 1000) (l3 : sl.length ≤ 1000) (l4 : kids.length ≤ 1000) (hr : TrR w0 (.mk k tag key text cl al sl (e, lv, m, d, p, q) kids) (k, tag, key, text, ⟨a1, cl.length, m1⟩, ⟨a2, al.length, m2⟩, ⟨a3, sl.length, m3⟩, (e, lv, m, d, p, q), ⟨a4, H.length, m4⟩))
    (z1 : tag.size ≤ 1000) (z2 : key.size ≤ 1000) (z3 : text.size ≤ 1000) (z4 : ∀ x ∈ al, x.2.size ≤ 1000) (hnm : ∀ c ∈ namesL cl al sl, c.size ≤ 1000) :
    Calls Tryz.prog 53 #[.agg #[.int .i64 k, .string tag, .string key, .string text, .slice a1 cl.length m1, .slice a2 al.length m2, .slice a3 sl.length m3, .int .i64 e, .int .i64 lv, .int .i64 m, .int .i64 d, .bool p, .bool q, .slice a4 H.length m4]] w0 (Ret fun v w => v = .bool (mayB k tag key text cl al sl (e, lv, m, d, p, q) kids) ∧ St w0 [] w) := by
  have hHk : H.length = kids.length := hF.1
  have hnl : (namesL cl al sl).length = cl.length + al.length + sl.length := by unfold namesL; rw [List.length_append, List.length_append, List.length_map, List.length_map]
  have hnn := fun w0 hr => names07W_any (.mk k tag key text cl al sl (e, lv, m, d, p, q) kids) (k, tag, key, text, ⟨a1, cl.length, m1⟩, ⟨a2, al.length, m2⟩, ⟨a3, sl.length, m3⟩, (e, lv, m, d, p, q), ⟨a4, H.length, m4⟩) w0 hr cl al sl ⟨by omega, by omega, by omega⟩ rfl
  by_cases hk1 : k = 1
  · subst hk1
    have hmb : mayB 1 tag key text cl al sl (e, lv, m, d, p, q) kids = (decide (tag = ⟨#[]⟩ ∧ key = ⟨#[]⟩ ∧ cl.length + al.length + sl.length + kids.length = 0 ∧ ((e, lv, m, d, p, q) : Opt) = (0, 0, 0, 0, false, false)) && txtS text) := by unfold mayB bareB; rw [if_pos rfl]
    rw [hmb]
    clear hmb
    refine enter Tryz.func53 rfl Tryz.ntmps53 rfl (fun a hk => ?_); have hS := St.refl w0
    refine wpIn_seq ?_; refine wpIn_region_lit ?_
    refine st_box hk hS ?_; clear hk hS a; intro w b1 hS a hk
    have c4' := hS.rdT c4
    (repeat' (first|((first|refine wx1 ?_|refine wx2 ?_ ?_<;>intro hp|refine s_end hk ?_)<;>(clear hk a;intro a hk))|((first|refine wx3 ?_;intro w b|refine wx4 ?_;intro w|refine wx5 ?_;intro w v);clear hk hS a;intro hS a hk)|refine wx0 ?_|fail))
    refine sg hk (g_callO hk (hf := by kernel_rfl) (hc := rtext_any text (by omega) _) (h := ?_)); clear hk a; rintro _ w ⟨rfl, hS1⟩ a hk; replace hS := hS.call0 hS1; clear hS1
    generalize txtS text = bb at hk
    cases bb with
    | false => (repeat' (first|((first|refine wx1 ?_|refine wx2 ?_ ?_<;>intro hp|refine s_end hk ?_)<;>(clear hk a;intro a hk))|((first|refine wx3 ?_;intro w b|refine wx4 ?_;intro w|refine wx5 ?_;intro w v);clear hk hS a;intro hS a hk)|refine wx0 ?_|fail)); exact done1 hk (h := ⟨by rw [Bool.and_false], hS.nil⟩)
    | true =>
      rw [Bool.and_true]
      by_cases ht : tag = ⟨#[]⟩
      · by_cases hy : key = ⟨#[]⟩
        · (repeat' (first|((first|refine wx1 ?_|refine wx2 ?_ ?_<;>intro hp|refine s_end hk ?_)<;>(clear hk a;intro a hk))|((first|refine wx3 ?_;intro w b|refine wx4 ?_;intro w|refine wx5 ?_;intro w v);clear hk hS a;intro hS a hk)|refine wx0 ?_|fail))
          refine sg hk (g_callO hk (hf := by kernel_rfl) (hc := hnn _ (hS.rdTr hr)) (h := ?_)); clear hk a; rintro vn w hS1 a hk; replace hS := hS.call hS1; clear hS1
          generalize namesL cl al sl = N at *
          have hN : SlT N vn w := OwT.rd (hS.rd (A := OwT 9 N vn) atx)
          by_cases hN0 : N.length = 0
          · by_cases hK0 : H.length = 0
            · (repeat' (first|((first|refine wx1 ?_|refine wx2 ?_ ?_<;>intro hp|refine s_end hk ?_)<;>(clear hk a;intro a hk))|((first|refine wx3 ?_;intro w b|refine wx4 ?_;intro w|refine wx5 ?_;intro w v);clear hk hS a;intro hS a hk)|refine wx0 ?_|fail))
              · exact done1 hk (h := ⟨by have e0 := eqC_enc (α := Opt) (x := (e, lv, m, d, p, q)) (y := (0, 0, 0, 0, false, false)) (b := true) (by assumption)
                                         rw [if_pos rfl] at e0
                                         rw [decide_eq_true ⟨ht, hy, by omega, e0⟩], hS.nil⟩)
              · exact done1 hk (h := ⟨by have e0 := eqC_enc (α := Opt) (x := (e, lv, m, d, p, q)) (y := (0, 0, 0, 0, false, false)) (b := false) (by assumption)
                                         rw [if_neg (by decide)] at e0
                                         rw [decide_eq_false (fun h => e0 h.2.2.2)], hS.nil⟩)
            · (repeat' (first|((first|refine wx1 ?_|refine wx2 ?_ ?_<;>intro hp|refine s_end hk ?_)<;>(clear hk a;intro a hk))|((first|refine wx3 ?_;intro w b|refine wx4 ?_;intro w|refine wx5 ?_;intro w v);clear hk hS a;intro hS a hk)|refine wx0 ?_|fail))
              exact done1 hk (h := ⟨by rw [decide_eq_false (fun h => hK0 (by omega))], hS.nil⟩)
          · (repeat' (first|((first|refine wx1 ?_|refine wx2 ?_ ?_<;>intro hp|refine s_end hk ?_)<;>(clear hk a;intro a hk))|((first|refine wx3 ?_;intro w b|refine wx4 ?_;intro w|refine wx5 ?_;intro w v);clear hk hS a;intro hS a hk)|refine wx0 ?_|fail))
            exact done1 hk (h := ⟨by rw [decide_eq_false (fun h => hN0 (by omega))], hS.nil⟩)
        · (repeat' (first|((first|refine wx1 ?_|refine wx2 ?_ ?_<;>intro hp|refine s_end hk ?_)<;>(clear hk a;intro a hk))|((first|refine wx3 ?_;intro w b|refine wx4 ?_;intro w|refine wx5 ?_;intro w v);clear hk hS a;intro hS a hk)|refine wx0 ?_|fail))
          exact done1 hk (h := ⟨by rw [decide_eq_false (fun h => hy h.2.1)], hS.nil⟩)
      · (repeat' (first|((first|refine wx1 ?_|refine wx2 ?_ ?_<;>intro hp|refine s_end hk ?_)<;>(clear hk a;intro a hk))|((first|refine wx3 ?_;intro w b|refine wx4 ?_;intro w|refine wx5 ?_;intro w v);clear hk hS a;intro hS a hk)|refine wx0 ?_|fail))
        exact done1 hk (h := ⟨by rw [decide_eq_false (fun h => ht h.1)], hS.nil⟩)
  · have hif := may_iff (k := k) (tag := tag) (key := key) (text := text) (cl := cl) (al := al) (sl := sl) (e := e) (lv := lv) (m := m) (d := d) (p := p) (q := q) (kids := kids) hk1
    generalize mayB k tag key text cl al sl (e, lv, m, d, p, q) kids = M at *
    have hno : ¬ MayP k tag key text cl al sl e lv m d p q kids → M = false := fun h => by cases M with | false => rfl | true => exact absurd (hif.1 rfl) h
    refine (fun (tail : ∀ (b1 b3 : Nat) (a : Act) (w : World), (2 ≤ k ∧ k ≤ 4) → text = ⟨#[]⟩ → nameS tag = true → (key = ⟨#[]⟩ ∨ keyS key = true) → Kn [] 205 a [(1, .pointer (some ⟨b1, 0, none⟩)), (3, .pointer (some ⟨b3, 0, none⟩)), (80, .agg #[.int .i64 k, .string tag, .string key, .string text, .slice a1 cl.length m1, .slice a2 al.length m2, .slice a3 sl.length m3, .int .i64 e, .int .i64 lv, .int .i64 m, .int .i64 d, .bool p, .bool q, .slice a4 H.length m4])] → St w0 [pts b3 [.int .i64 0, .int .i64 0, .int .i64 0, .int .i64 0, .bool false, .bool false] 39, pts b1 [.int .i64 k, .string tag, .string key, .string text, .slice a1 cl.length m1, .slice a2 al.length m2, .slice a3 sl.length m3, .int .i64 e, .int .i64 lv, .int .i64 m, .int .i64 d, .bool p, .bool q, .slice a4 H.length m4] 42] w → wpListIn (FR none) 0 Tryz.prog ?ops ?Q ?rest a w) => ?first) ?second
    case first =>
      refine enter Tryz.func53 rfl Tryz.ntmps53 rfl (fun a hk => ?_); have hS := St.refl w0
      refine wpIn_seq ?_; refine wpIn_region_lit ?_
      refine st_box hk hS ?_; clear hk hS a; intro w b1 hS a hk
      by_cases hka : k < 2
      · (repeat' (first|((first|refine wx1 ?_|refine wx2 ?_ ?_<;>intro hp|refine s_end hk ?_)<;>(clear hk a;intro a hk))|((first|refine wx3 ?_;intro w b|refine wx4 ?_;intro w|refine wx5 ?_;intro w v);clear hk hS a;intro hS a hk)|refine wx0 ?_|fail))
        exact done1 hk (h := ⟨by rw [hno (fun h => by have := h.kk; omega)], hS.nil⟩)
      · by_cases hkb : k > 4
        · (repeat' (first|((first|refine wx1 ?_|refine wx2 ?_ ?_<;>intro hp|refine s_end hk ?_)<;>(clear hk a;intro a hk))|((first|refine wx3 ?_;intro w b|refine wx4 ?_;intro w|refine wx5 ?_;intro w v);clear hk hS a;intro hS a hk)|refine wx0 ?_|fail))
          exact done1 hk (h := ⟨by rw [hno (fun h => by have := h.kk; omega)], hS.nil⟩)
        · by_cases htx : text = ⟨#[]⟩
          · (repeat' (first|((first|refine wx1 ?_|refine wx2 ?_ ?_<;>intro hp|refine s_end hk ?_)<;>(clear hk a;intro a hk))|((first|refine wx3 ?_;intro w b|refine wx4 ?_;intro w|refine wx5 ?_;intro w v);clear hk hS a;intro hS a hk)|refine wx0 ?_|fail))
            rename Nat => b3
            refine sg hk (g_callO hk (hf := by kernel_rfl) (hc := rname_any tag (by omega) _) (h := ?_)); clear hk a; rintro _ w ⟨rfl, hS1⟩ a hk; replace hS := hS.call0 hS1; clear hS1
            cases hbt : nameS tag with
            | false =>
              rw [hbt] at hk
              (repeat' (first|((first|refine wx1 ?_|refine wx2 ?_ ?_<;>intro hp|refine s_end hk ?_)<;>(clear hk a;intro a hk))|((first|refine wx3 ?_;intro w b|refine wx4 ?_;intro w|refine wx5 ?_;intro w v);clear hk hS a;intro hS a hk)|refine wx0 ?_|fail))
              exact done1 hk (h := ⟨by rw [hno (fun h => by rw [h.tg] at hbt; cases hbt)], hS.nil⟩)
            | true =>
              rw [hbt] at hk
              by_cases hky : key = ⟨#[]⟩
              · (repeat' (first|((first|refine wx1 ?_|refine wx2 ?_ ?_<;>intro hp|refine s_end hk ?_)<;>(clear hk a;intro a hk))|((first|refine wx3 ?_;intro w b|refine wx4 ?_;intro w|refine wx5 ?_;intro w v);clear hk hS a;intro hS a hk)|refine wx0 ?_|fail))
                exact tail _ _ _ _ (by omega) htx hbt (.inl hky) (hk.sub skx) hS.sb
              · (repeat' (first|((first|refine wx1 ?_|refine wx2 ?_ ?_<;>intro hp|refine s_end hk ?_)<;>(clear hk a;intro a hk))|((first|refine wx3 ?_;intro w b|refine wx4 ?_;intro w|refine wx5 ?_;intro w v);clear hk hS a;intro hS a hk)|refine wx0 ?_|fail))
                refine sg hk (g_callO hk (hf := by kernel_rfl) (hc := rkey_any key (by omega) _) (h := ?_)); clear hk a; rintro _ w ⟨rfl, hS1⟩ a hk; replace hS := hS.call0 hS1; clear hS1
                cases hbk : keyS key with
                | false =>
                  rw [hbk] at hk
                  (repeat' (first|((first|refine wx1 ?_|refine wx2 ?_ ?_<;>intro hp|refine s_end hk ?_)<;>(clear hk a;intro a hk))|((first|refine wx3 ?_;intro w b|refine wx4 ?_;intro w|refine wx5 ?_;intro w v);clear hk hS a;intro hS a hk)|refine wx0 ?_|fail))
                  exact done1 hk (h := ⟨by rw [hno (fun h => h.ky.elim hky (fun h => by rw [h] at hbk; cases hbk))], hS.nil⟩)
                | true =>
                  rw [hbk] at hk
                  (repeat' (first|((first|refine wx1 ?_|refine wx2 ?_ ?_<;>intro hp|refine s_end hk ?_)<;>(clear hk a;intro a hk))|((first|refine wx3 ?_;intro w b|refine wx4 ?_;intro w|refine wx5 ?_;intro w v);clear hk hS a;intro hS a hk)|refine wx0 ?_|fail))
                  exact tail _ _ _ _ (by omega) htx hbt (.inr hbk) (hk.sub skx) hS.sb
          · (repeat' (first|((first|refine wx1 ?_|refine wx2 ?_ ?_<;>intro hp|refine s_end hk ?_)<;>(clear hk a;intro a hk))|((first|refine wx3 ?_;intro w b|refine wx4 ?_;intro w|refine wx5 ?_;intro w v);clear hk hS a;intro hS a hk)|refine wx0 ?_|fail))
            exact done1 hk (h := ⟨by rw [hno (fun h => htx h.tx)], hS.nil⟩)
    case second =>
      refine (fun (tail2 : ∀ (b1 b10 : Nat) (a : Act) (w : World) (v : Value), (2 ≤ k ∧ k ≤ 4) → text = ⟨#[]⟩ → nameS tag = true → (key = ⟨#[]⟩ ∨ keyS key = true) → (∀ c ∈ namesL cl al sl, nameS c = true) → (∀ x ∈ al, valS x.2 = true) → (∀ x ∈ sl, -2147483648 ≤ x.2 ∧ x.2 ≤ 2147483647) → (k = 2 → ((e, lv, m, d, p, q) : Opt) = (0, 0, 0, 0, false, false)) → Kn [] 205 a [(1, .pointer (some ⟨b1, 0, none⟩)), (10, .pointer (some ⟨b10, 0, none⟩)), (135, v), (136, .int .i64 3), (137, .int .i64 0)] → St w0 [OwT 3 ([e, lv, m] : List Int) v, pts b10 [.int .i64 e, .int .i64 lv, .int .i64 m, .int .i64 d, .bool p, .bool q] 39, pts b1 [.int .i64 k, .string tag, .string key, .string text, .slice a1 cl.length m1, .slice a2 al.length m2, .slice a3 sl.length m3, .int .i64 e, .int .i64 lv, .int .i64 m, .int .i64 d, .bool p, .bool q, .slice a4 H.length m4] 42] w → Code.wpIn (FR none) 0 Tryz.prog (Code.loop ?c2) ?Q2 a w) => ?first2) ?second2
      case first2 =>
        intro b1 b3 a w hkk htx htg hky hk hS
        refine sg hk (g_callO hk (hf := by kernel_rfl) (hc := hnn _ (hS.rdTr hr)) (h := ?_)); clear hk a; rintro vn w hS1 a hk; replace hS := hS.call hS1; clear hS1
        rw [List.cons_append, List.nil_append] at hS
        obtain ⟨N, hNN⟩ : ∃ N, N = namesL cl al sl := ⟨_, rfl⟩
        rw [← hNN] at hS
        have hnl' : N.length = cl.length + al.length + sl.length := by rw [hNN]; exact hnl
        have hnm' : ∀ c ∈ N, c.size ≤ 1000 := by rw [hNN]; exact hnm
        have hNv : SlT N vn w := OwT.rd (hS.rd (A := OwT 9 N vn) atx)
        (repeat' (first|((first|refine wx1 ?_|refine wx2 ?_ ?_<;>intro hp|refine s_end hk ?_)<;>(clear hk a;intro a hk))|((first|refine wx3 ?_;intro w b|refine wx4 ?_;intro w|refine wx5 ?_;intro w v);clear hk hS a;intro hS a hk)|refine wx0 ?_|fail))
        clear hNv
        replace hk := Kn.kp [1, 3, 81, 82, 83] hk
        refine wp_for N.length (fun i _ => [(83, .int .i64 (i : Int))]) (fun _ _ => [OwT 9 N vn, pts b3 [.int .i64 0, .int .i64 0, .int .i64 0, .int .i64 0, .bool false, .bool false] 39, pts b1 [.int .i64 k, .string tag, .string key, .string text, .slice a1 cl.length m1, .slice a2 al.length m2, .slice a3 sl.length m3, .int .i64 e, .int .i64 lv, .int .i64 m, .int .i64 d, .bool p, .bool q, .slice a4 H.length m4] 42]) (fun i _ => ∀ c ∈ N.take i, nameS c = true) () hk skx hS (fun c hc => by rw [List.take_zero] at hc; cases hc) ?_
        clear hk hS a
        rintro i - a w hi hk hS hA
        by_cases hil : i < N.length
        · obtain ⟨x, hx⟩ : ∃ x, N[i]? = some x := ⟨_, List.getElem?_eq_getElem hil⟩
          have hst := take_snoc hx
          have hmx := List.mem_of_getElem? hx
          (repeat' (first|((first|refine wx1 ?_|refine wx2 ?_ ?_<;>intro hp|refine s_end hk ?_)<;>(clear hk a;intro a hk))|((first|refine wx3 ?_;intro w b|refine wx4 ?_;intro w|refine wx5 ?_;intro w v);clear hk hS a;intro hS a hk)|refine wx0 ?_|fail))
          refine sg hk (g_callO hk (hf := by kernel_rfl) (hc := rname_any x (hnm' x hmx) _) (h := ?_)); clear hk a; rintro _ w ⟨rfl, hS1⟩ a hk; replace hS := hS.call0 hS1; clear hS1
          cases hb : nameS x with
          | false =>
            rw [hb] at hk
            (repeat' (first|((first|refine wx1 ?_|refine wx2 ?_ ?_<;>intro hp|refine s_end hk ?_)<;>(clear hk a;intro a hk))|((first|refine wx3 ?_;intro w b|refine wx4 ?_;intro w|refine wx5 ?_;intro w v);clear hk hS a;intro hS a hk)|refine wx0 ?_|fail))
            exact done1 hk (h := ⟨by rw [hno (fun h => by rw [h.nm x (by rw [← hNN]; exact hmx)] at hb; cases hb)], hS.nil⟩)
          | true =>
            rw [hb] at hk
            (repeat' (first|((first|refine wx1 ?_|refine wx2 ?_ ?_<;>intro hp|refine s_end hk ?_)<;>(clear hk a;intro a hk))|((first|refine wx3 ?_;intro w b|refine wx4 ?_;intro w|refine wx5 ?_;intro w v);clear hk hS a;intro hS a hk)|refine wx0 ?_|fail))
            refine ⟨hil, (), hk.sd, hS, fun c hc => ?_⟩
            rw [hst] at hc
            rcases List.mem_append.1 hc with h | h
            · exact hA c h
            · rw [List.mem_singleton] at h; subst h; exact hb
        · have hii : i = N.length := by omega
          subst hii
          rw [List.take_length] at hA
          have hN : ∀ c ∈ namesL cl al sl, nameS c = true := by rw [← hNN]; exact hA
          clear hA hil hi
          have hv2 := hS.rdT c2
          (repeat' (first|((first|refine wx1 ?_|refine wx2 ?_ ?_<;>intro hp|refine s_end hk ?_)<;>(clear hk a;intro a hk))|((first|refine wx3 ?_;intro w b|refine wx4 ?_;intro w|refine wx5 ?_;intro w v);clear hk hS a;intro hS a hk)|refine wx0 ?_|fail))
          replace hk := Kn.kp [1, 3, 92, 93, 94] hk
          refine wp_for al.length (fun i _ => [(94, .int .i64 (i : Int))]) (fun _ _ => [pts b3 [.int .i64 0, .int .i64 0, .int .i64 0, .int .i64 0, .bool false, .bool false] 39, pts b1 [.int .i64 k, .string tag, .string key, .string text, .slice a1 cl.length m1, .slice a2 al.length m2, .slice a3 sl.length m3, .int .i64 e, .int .i64 lv, .int .i64 m, .int .i64 d, .bool p, .bool q, .slice a4 H.length m4] 42]) (fun i _ => ∀ x ∈ al.take i, valS x.2 = true) () hk skx (hS.sub (.cons atx (.cons atx sbx))) (fun c hc => by rw [List.take_zero] at hc; cases hc) ?_
          clear hk hS a hv2
          rintro i - a w hi hk hS hA
          have hv2 := hS.rdT c2
          by_cases hil : i < al.length
          · obtain ⟨⟨x, y⟩, hx⟩ : ∃ x, al[i]? = some x := ⟨_, List.getElem?_eq_getElem hil⟩
            have hst := take_snoc hx
            have hmx := List.mem_of_getElem? hx
            (repeat' (first|((first|refine wx1 ?_|refine wx2 ?_ ?_<;>intro hp|refine s_end hk ?_)<;>(clear hk a;intro a hk))|((first|refine wx3 ?_;intro w b|refine wx4 ?_;intro w|refine wx5 ?_;intro w v);clear hk hS a;intro hS a hk)|refine wx0 ?_|fail))
            refine sg hk (g_callO hk (hf := by kernel_rfl) (hc := rvalue_any y (z4 _ hmx) _) (h := ?_)); clear hk a; rintro _ w ⟨rfl, hS1⟩ a hk; replace hS := hS.call0 hS1; clear hS1
            cases hb : valS y with
            | false =>
              rw [hb] at hk
              (repeat' (first|((first|refine wx1 ?_|refine wx2 ?_ ?_<;>intro hp|refine s_end hk ?_)<;>(clear hk a;intro a hk))|((first|refine wx3 ?_;intro w b|refine wx4 ?_;intro w|refine wx5 ?_;intro w v);clear hk hS a;intro hS a hk)|refine wx0 ?_|fail))
              exact done1 hk (h := ⟨by rw [hno (fun h => by have h2 := h.va _ hmx; simp only at h2; rw [h2] at hb; cases hb)], hS.nil⟩)
            | true =>
              rw [hb] at hk
              (repeat' (first|((first|refine wx1 ?_|refine wx2 ?_ ?_<;>intro hp|refine s_end hk ?_)<;>(clear hk a;intro a hk))|((first|refine wx3 ?_;intro w b|refine wx4 ?_;intro w|refine wx5 ?_;intro w v);clear hk hS a;intro hS a hk)|refine wx0 ?_|fail))
              refine ⟨hil, (), hk.sd, hS.sub (.cons atx (.cons atx sbx)), fun c hc => ?_⟩
              rw [hst] at hc
              rcases List.mem_append.1 hc with h | h
              · exact hA c h
              · rw [List.mem_singleton] at h; subst h; exact hb
          · have hii : i = al.length := by omega
            subst hii
            rw [List.take_length] at hA
            have hV := hA
            clear hA hil hi
            have hv3 := hS.rdT c3
            (repeat' (first|((first|refine wx1 ?_|refine wx2 ?_ ?_<;>intro hp|refine s_end hk ?_)<;>(clear hk a;intro a hk))|((first|refine wx3 ?_;intro w b|refine wx4 ?_;intro w|refine wx5 ?_;intro w v);clear hk hS a;intro hS a hk)|refine wx0 ?_|fail))
            replace hk := Kn.kp [1, 3, 104, 105, 106] hk
            refine wp_for sl.length (fun i _ => [(106, .int .i64 (i : Int))]) (fun _ _ => [pts b3 [.int .i64 0, .int .i64 0, .int .i64 0, .int .i64 0, .bool false, .bool false] 39, pts b1 [.int .i64 k, .string tag, .string key, .string text, .slice a1 cl.length m1, .slice a2 al.length m2, .slice a3 sl.length m3, .int .i64 e, .int .i64 lv, .int .i64 m, .int .i64 d, .bool p, .bool q, .slice a4 H.length m4] 42]) (fun i _ => ∀ x ∈ sl.take i, -2147483648 ≤ x.2 ∧ x.2 ≤ 2147483647) () hk skx (hS.sub (.cons atx (.cons atx sbx))) (fun c hc => by rw [List.take_zero] at hc; cases hc) ?_
            clear hk hS a hv2 hv3
            rintro i - a w hi hk hS hA
            have hv3 := hS.rdT c3
            by_cases hil : i < sl.length
            · obtain ⟨⟨x, y⟩, hx⟩ : ∃ x, sl[i]? = some x := ⟨_, List.getElem?_eq_getElem hil⟩
              have hst := take_snoc hx
              have hmx := List.mem_of_getElem? hx
              by_cases hy1 : y < -2147483648
              · (repeat' (first|((first|refine wx1 ?_|refine wx2 ?_ ?_<;>intro hp|refine s_end hk ?_)<;>(clear hk a;intro a hk))|((first|refine wx3 ?_;intro w b|refine wx4 ?_;intro w|refine wx5 ?_;intro w v);clear hk hS a;intro hS a hk)|refine wx0 ?_|fail))
                exact done1 hk (h := ⟨by rw [hno (fun h => by have h2 := (h.st _ hmx).1; simp only at h2; omega)], hS.nil⟩)
              · by_cases hy2 : y > 2147483647
                · (repeat' (first|((first|refine wx1 ?_|refine wx2 ?_ ?_<;>intro hp|refine s_end hk ?_)<;>(clear hk a;intro a hk))|((first|refine wx3 ?_;intro w b|refine wx4 ?_;intro w|refine wx5 ?_;intro w v);clear hk hS a;intro hS a hk)|refine wx0 ?_|fail))
                  exact done1 hk (h := ⟨by rw [hno (fun h => by have h2 := (h.st _ hmx).2; simp only at h2; omega)], hS.nil⟩)
                · (repeat' (first|((first|refine wx1 ?_|refine wx2 ?_ ?_<;>intro hp|refine s_end hk ?_)<;>(clear hk a;intro a hk))|((first|refine wx3 ?_;intro w b|refine wx4 ?_;intro w|refine wx5 ?_;intro w v);clear hk hS a;intro hS a hk)|refine wx0 ?_|fail))
                  refine ⟨hil, (), hk.sd, hS.sub (.cons atx (.cons atx sbx)), fun c hc => ?_⟩
                  rw [hst] at hc
                  rcases List.mem_append.1 hc with h | h
                  · exact hA c h
                  · rw [List.mem_singleton] at h; subst h; simp only; omega
            · have hii : i = sl.length := by omega
              subst hii
              rw [List.take_length] at hA
              have hSt := hA
              clear hA hil hi hv3
              by_cases hk2 : k = 2
              · (repeat' (first|((first|refine wx1 ?_|refine wx2 ?_ ?_<;>intro hp|refine s_end hk ?_)<;>(clear hk a;intro a hk))|((first|refine wx3 ?_;intro w b|refine wx4 ?_;intro w|refine wx5 ?_;intro w v);clear hk hS a;intro hS a hk)|refine wx0 ?_|fail))
                · have e0 := eqC_enc (α := Opt) (x := (e, lv, m, d, p, q)) (y := (0, 0, 0, 0, false, false)) (b := true) (by assumption)
                  rw [if_pos rfl] at e0
                  refine sg hk (g_bsT (xs := ([e, lv, m] : List Int)) (m := 2) hk hS ?_ (hT := eT rfl) (hE := zT rfl) (hz := oT rfl)); clear hk hS a; intro w v135 hS a hk
                  have hE3 : ([e, lv, m] : List Int).length = 3 := rfl
                  (repeat' (first|((first|refine wx1 ?_|refine wx2 ?_ ?_<;>intro hp|refine s_end hk ?_)<;>(clear hk a;intro a hk))|((first|refine wx3 ?_;intro w b|refine wx4 ?_;intro w|refine wx5 ?_;intro w v);clear hk hS a;intro hS a hk)|refine wx0 ?_|fail))
                  exact tail2 _ _ _ _ _ hkk htx htg hky hN hV hSt (fun _ => e0) (hk.sub skx) (hS.sub (.cons atx (.cons atx (.cons atx sbx))))
                · have e0 := eqC_enc (α := Opt) (x := (e, lv, m, d, p, q)) (y := (0, 0, 0, 0, false, false)) (b := false) (by assumption)
                  rw [if_neg (by decide)] at e0
                  exact done1 hk (h := ⟨by rw [hno (fun h => e0 (h.o2 hk2))], hS.nil⟩)
              · (repeat' (first|((first|refine wx1 ?_|refine wx2 ?_ ?_<;>intro hp|refine s_end hk ?_)<;>(clear hk a;intro a hk))|((first|refine wx3 ?_;intro w b|refine wx4 ?_;intro w|refine wx5 ?_;intro w v);clear hk hS a;intro hS a hk)|refine wx0 ?_|fail))
                refine sg hk (g_bsT (xs := ([e, lv, m] : List Int)) (m := 2) hk hS ?_ (hT := eT rfl) (hE := zT rfl) (hz := oT rfl)); clear hk hS a; intro w v135 hS a hk
                have hE3 : ([e, lv, m] : List Int).length = 3 := rfl
                (repeat' (first|((first|refine wx1 ?_|refine wx2 ?_ ?_<;>intro hp|refine s_end hk ?_)<;>(clear hk a;intro a hk))|((first|refine wx3 ?_;intro w b|refine wx4 ?_;intro w|refine wx5 ?_;intro w v);clear hk hS a;intro hS a hk)|refine wx0 ?_|fail))
                exact tail2 _ _ _ _ _ hkk htx htg hky hN hV hSt (fun h => absurd h hk2) (hk.sub skx) (hS.sub (.cons atx (.cons atx (.cons atx sbx))))
      case second2 =>
        refine (fun (tail3 : ∀ (b1 : Nat) (qq : Bool) (a : Act) (w : World), ((2 < k → ∀ u ∈ kids, kidB u = true) → M = true) → Kn [] 205 a [(1, .pointer (some ⟨b1, 0, none⟩)), (185, .slice a4 H.length m4), (186, .int .i64 H.length), (187, .int .i64 0)] → St w0 [pts b1 [.int .i64 k, .string tag, .string key, .string text, .slice a1 cl.length m1, .slice a2 al.length m2, .slice a3 sl.length m3, .int .i64 e, .int .i64 lv, .int .i64 m, .int .i64 d, .bool p, .bool qq, .slice a4 H.length m4] 42] w → Code.wpIn (FR none) 0 Tryz.prog (Code.loop ?c3) ?Q3 a w) => ?first3) ?second3
        case first3 =>
          intro b1 b10 a w v hkk htx htg hky hN hV hSt ho2 hk hS
          refine wp_for 3 (fun i _ => [(137, .int .i64 (i : Int))]) (fun _ _ => [OwT 3 ([e, lv, m] : List Int) v, pts b10 [.int .i64 e, .int .i64 lv, .int .i64 m, .int .i64 d, .bool p, .bool q] 39, pts b1 [.int .i64 k, .string tag, .string key, .string text, .slice a1 cl.length m1, .slice a2 al.length m2, .slice a3 sl.length m3, .int .i64 e, .int .i64 lv, .int .i64 m, .int .i64 d, .bool p, .bool q, .slice a4 H.length m4] 42]) (fun i _ => ∀ x ∈ ([e, lv, m] : List Int).take i, 0 ≤ x ∧ x ≤ 1000) () hk skx hS (fun c hc => by rw [List.take_zero] at hc; cases hc) ?_
          clear hk hS a
          rintro i - a w hi hk hS hA
          have h3l : ([e, lv, m] : List Int).length = 3 := rfl
          by_cases hil : i < 3
          · obtain ⟨x, hx⟩ : ∃ x, ([e, lv, m] : List Int)[i]? = some x := ⟨_, List.getElem?_eq_getElem (by omega)⟩
            have hst := take_snoc hx
            have hm3 : x = e ∨ x = lv ∨ x = m := by simpa using List.mem_of_getElem? hx
            have hEv : SlT ([e, lv, m] : List Int) v w := OwT.rd (hS.rd (A := OwT 3 ([e, lv, m] : List Int) v) atx)
            by_cases hx1 : x < 0
            · (repeat' (first|((first|refine wx1 ?_|refine wx2 ?_ ?_<;>intro hp|refine s_end hk ?_)<;>(clear hk a;intro a hk))|((first|refine wx3 ?_;intro w b|refine wx4 ?_;intro w|refine wx5 ?_;intro w v);clear hk hS a;intro hS a hk)|refine wx0 ?_|fail))
              exact done1 hk (h := ⟨by rw [hno (fun h => by have := h.la; rcases hm3 with h1 | h1 | h1 <;> omega)], hS.nil⟩)
            · by_cases hx2 : x > 1000
              · (repeat' (first|((first|refine wx1 ?_|refine wx2 ?_ ?_<;>intro hp|refine s_end hk ?_)<;>(clear hk a;intro a hk))|((first|refine wx3 ?_;intro w b|refine wx4 ?_;intro w|refine wx5 ?_;intro w v);clear hk hS a;intro hS a hk)|refine wx0 ?_|fail))
                exact done1 hk (h := ⟨by rw [hno (fun h => by have := h.la; rcases hm3 with h1 | h1 | h1 <;> omega)], hS.nil⟩)
              · (repeat' (first|((first|refine wx1 ?_|refine wx2 ?_ ?_<;>intro hp|refine s_end hk ?_)<;>(clear hk a;intro a hk))|((first|refine wx3 ?_;intro w b|refine wx4 ?_;intro w|refine wx5 ?_;intro w v);clear hk hS a;intro hS a hk)|refine wx0 ?_|fail))
                refine ⟨hil, (), hk.sd, hS.sub (.cons atx (.cons atx (.cons atx sbx))), fun c hc => ?_⟩
                rw [hst] at hc
                rcases List.mem_append.1 hc with h | h
                · exact hA c h
                · rw [List.mem_singleton] at h; subst h; omega
          · have hii : i = 3 := by omega
            subst hii
            have y1 := hA e (by simp)
            have y2 := hA lv (by simp)
            have y3 := hA m (by simp)
            have c4' := hS.rdT c4
            have hgo : (k = 3 → d = 0) → (k = 4 → m = 0 ∧ q = false ∧ 0 ≤ d ∧ d ≤ 2 ∧ kids.length ≤ 1) → (2 < k → ∀ u ∈ kids, kidB u = true) → M = true := fun h3 h4 h5 => hif.2 ⟨hkk, htx, htg, hky, hN, hV, hSt, ho2, ⟨y1, y2, y3⟩, h3, h4, h5⟩
            by_cases hk3 : k = 3
            · by_cases hd0 : d = 0
              · (repeat' (first|((first|refine wx1 ?_|refine wx2 ?_ ?_<;>intro hp|refine s_end hk ?_)<;>(clear hk a;intro a hk))|((first|refine wx3 ?_;intro w b|refine wx4 ?_;intro w|refine wx5 ?_;intro w v);clear hk hS a;intro hS a hk)|refine wx0 ?_|fail))
                exact tail3 _ q _ _ (hgo (fun _ => hd0) (fun h => by omega)) (hk.sub skx) (hS.sub (.cons atx sbx))
              · (repeat' (first|((first|refine wx1 ?_|refine wx2 ?_ ?_<;>intro hp|refine s_end hk ?_)<;>(clear hk a;intro a hk))|((first|refine wx3 ?_;intro w b|refine wx4 ?_;intro w|refine wx5 ?_;intro w v);clear hk hS a;intro hS a hk)|refine wx0 ?_|fail))
                exact done1 hk (h := ⟨by rw [hno (fun h => hd0 (h.d3 hk3))], hS.nil⟩)
            · by_cases hk4 : k = 4
              · by_cases hm0 : m = 0
                · by_cases hq : q = true
                  · rw [hq] at hS
                    (repeat' (first|((first|refine wx1 ?_|refine wx2 ?_ ?_<;>intro hp|refine s_end hk ?_)<;>(clear hk a;intro a hk))|((first|refine wx3 ?_;intro w b|refine wx4 ?_;intro w|refine wx5 ?_;intro w v);clear hk hS a;intro hS a hk)|refine wx0 ?_|fail))
                    exact done1 hk (h := ⟨by rw [hno (fun h => by have := (h.d4 hk4).2.1; rw [hq] at this; cases this)], hS.nil⟩)
                  · rw [Bool.not_eq_true] at hq
                    rw [hq] at hS
                    by_cases hd1 : d < 0
                    · (repeat' (first|((first|refine wx1 ?_|refine wx2 ?_ ?_<;>intro hp|refine s_end hk ?_)<;>(clear hk a;intro a hk))|((first|refine wx3 ?_;intro w b|refine wx4 ?_;intro w|refine wx5 ?_;intro w v);clear hk hS a;intro hS a hk)|refine wx0 ?_|fail))
                      exact done1 hk (h := ⟨by rw [hno (fun h => by have := (h.d4 hk4).2.2.1; omega)], hS.nil⟩)
                    · by_cases hd2 : d > 2
                      · (repeat' (first|((first|refine wx1 ?_|refine wx2 ?_ ?_<;>intro hp|refine s_end hk ?_)<;>(clear hk a;intro a hk))|((first|refine wx3 ?_;intro w b|refine wx4 ?_;intro w|refine wx5 ?_;intro w v);clear hk hS a;intro hS a hk)|refine wx0 ?_|fail))
                        exact done1 hk (h := ⟨by rw [hno (fun h => by have := (h.d4 hk4).2.2.2.1; omega)], hS.nil⟩)
                      · by_cases hl1 : H.length > 1
                        · (repeat' (first|((first|refine wx1 ?_|refine wx2 ?_ ?_<;>intro hp|refine s_end hk ?_)<;>(clear hk a;intro a hk))|((first|refine wx3 ?_;intro w b|refine wx4 ?_;intro w|refine wx5 ?_;intro w v);clear hk hS a;intro hS a hk)|refine wx0 ?_|fail))
                          exact done1 hk (h := ⟨by rw [hno (fun h => by have := (h.d4 hk4).2.2.2.2; omega)], hS.nil⟩)
                        · (repeat' (first|((first|refine wx1 ?_|refine wx2 ?_ ?_<;>intro hp|refine s_end hk ?_)<;>(clear hk a;intro a hk))|((first|refine wx3 ?_;intro w b|refine wx4 ?_;intro w|refine wx5 ?_;intro w v);clear hk hS a;intro hS a hk)|refine wx0 ?_|fail))
                          exact tail3 _ false _ _ (hgo (fun h => absurd h hk3) (fun _ => ⟨hm0, hq, by omega, by omega, by omega⟩)) (hk.sub skx) (hS.sub (.cons atx sbx))
                · (repeat' (first|((first|refine wx1 ?_|refine wx2 ?_ ?_<;>intro hp|refine s_end hk ?_)<;>(clear hk a;intro a hk))|((first|refine wx3 ?_;intro w b|refine wx4 ?_;intro w|refine wx5 ?_;intro w v);clear hk hS a;intro hS a hk)|refine wx0 ?_|fail))
                  exact done1 hk (h := ⟨by rw [hno (fun h => hm0 (h.d4 hk4).1)], hS.nil⟩)
              · (repeat' (first|((first|refine wx1 ?_|refine wx2 ?_ ?_<;>intro hp|refine s_end hk ?_)<;>(clear hk a;intro a hk))|((first|refine wx3 ?_;intro w b|refine wx4 ?_;intro w|refine wx5 ?_;intro w v);clear hk hS a;intro hS a hk)|refine wx0 ?_|fail))
                exact tail3 _ q _ _ (hgo (fun h => absurd h hk3) (fun h => absurd h hk4)) (hk.sub skx) (hS.sub (.cons atx sbx))
        case second3 =>
          intro b1 qq a w hM hk hS
          refine wp_for H.length (fun i _ => [(187, .int .i64 (i : Int))]) (fun _ _ => [pts b1 [.int .i64 k, .string tag, .string key, .string text, .slice a1 cl.length m1, .slice a2 al.length m2, .slice a3 sl.length m3, .int .i64 e, .int .i64 lv, .int .i64 m, .int .i64 d, .bool p, .bool qq, .slice a4 H.length m4] 42]) (fun i _ => 2 < k → ∀ u ∈ kids.take i, kidB u = true) () hk skx hS (fun _ c hc => by rw [List.take_zero] at hc; cases hc) ?_
          clear hk hS a
          rintro i - a w hi hk hS hA
          have hv4 := hS.rdT c4
          by_cases hil : i < H.length
          · obtain ⟨tk, htk⟩ : ∃ t, kids[i]? = some t := ⟨_, List.getElem?_eq_getElem (by omega)⟩
            obtain ⟨hd0, hx⟩ : ∃ x, H[i]? = some x := ⟨_, List.getElem?_eq_getElem hil⟩
            have hTr := hF.2 i tk hd0 htk hx
            have hmk := List.mem_of_getElem? htk
            have hst := take_snoc htk
            obtain ⟨k', tag', key', text', cl', al', sl', e', lv', m', d', p', q', kids', x1, x2, y1, y2, z1', z2', u1, u2, H', rfl, rfl, _⟩ := hTr.split
            by_cases hk2 : 2 < k
            · by_cases hb1 : k' = 2
              · by_cases hb2 : key' = ⟨#[]⟩
                · (repeat' (first|((first|refine wx1 ?_|refine wx2 ?_ ?_<;>intro hp|refine s_end hk ?_)<;>(clear hk a;intro a hk))|((first|refine wx3 ?_;intro w b|refine wx4 ?_;intro w|refine wx5 ?_;intro w v);clear hk hS a;intro hS a hk)|refine wx0 ?_|fail))
                  exact done1 hk (h := ⟨by rw [hno (fun h => by have h2 := of_decide_eq_true (h.kd hk2 _ hmk); exact h2.2 hb2)], hS.nil⟩)
                · (repeat' (first|((first|refine wx1 ?_|refine wx2 ?_ ?_<;>intro hp|refine s_end hk ?_)<;>(clear hk a;intro a hk))|((first|refine wx3 ?_;intro w b|refine wx4 ?_;intro w|refine wx5 ?_;intro w v);clear hk hS a;intro hS a hk)|refine wx0 ?_|fail))
                  refine ⟨hil, (), hk.sd, hS.sub (.cons atx sbx), fun h c hc => ?_⟩
                  rw [hst] at hc
                  rcases List.mem_append.1 hc with hc | hc
                  · exact hA h c hc
                  · rw [List.mem_singleton] at hc; subst hc; exact decide_eq_true ⟨hb1, hb2⟩
              · (repeat' (first|((first|refine wx1 ?_|refine wx2 ?_ ?_<;>intro hp|refine s_end hk ?_)<;>(clear hk a;intro a hk))|((first|refine wx3 ?_;intro w b|refine wx4 ?_;intro w|refine wx5 ?_;intro w v);clear hk hS a;intro hS a hk)|refine wx0 ?_|fail))
                exact done1 hk (h := ⟨by rw [hno (fun h => by have h2 := of_decide_eq_true (h.kd hk2 _ hmk); exact hb1 h2.1)], hS.nil⟩)
            · (repeat' (first|((first|refine wx1 ?_|refine wx2 ?_ ?_<;>intro hp|refine s_end hk ?_)<;>(clear hk a;intro a hk))|((first|refine wx3 ?_;intro w b|refine wx4 ?_;intro w|refine wx5 ?_;intro w v);clear hk hS a;intro hS a hk)|refine wx0 ?_|fail))
              exact ⟨hil, (), hk.sd, hS.sub (.cons atx sbx), fun h => absurd h hk2⟩
          · have hii : i = kids.length := by omega
            subst hii
            rw [List.take_length] at hA
            have hMt := hM hA
            (repeat' (first|((first|refine wx1 ?_|refine wx2 ?_ ?_<;>intro hp|refine s_end hk ?_)<;>(clear hk a;intro a hk))|((first|refine wx3 ?_;intro w b|refine wx4 ?_;intro w|refine wx5 ?_;intro w v);clear hk hS a;intro hS a hk)|refine wx0 ?_|fail))
            exact done1 hk (h := ⟨by rw [hMt], hS.nil⟩)
end Go.Proofs.YtnjmonkehjlaoaaGreatDoor
namespace Go.Proofs.YtnjmonkehjlaoaaGreatDoor
open Go.RowKit
set_option maxRecDepth 100000
attribute [local irreducible] Go.Code.wpIn Go.wpListIn Go.Calls Gives Go.Exit.then Go.Exit.inBlock Done ObxE
set_option maxHeartbeats 1000000 in
theorem idxN_any (p : ByteArray → Bool) (s : List ByteArray) (f : FuncId) (cap : List Value) (v : Value) {B : Bs} {L : List HP} (w : World) (hS : St B L w) (hv : SlT s v w) (hl : s.length ≤ 5000) (hf : callable Tryz.prog f = true)
  (hc : ∀ (x : ByteArray) (w' : World), x ∈ s → St B L w' → Calls Tryz.prog f (.string x :: cap).toArray w' (Ret fun v w'' => v = .bool (p x) ∧ St w' [] w'')) :
  Calls Tryz.prog 89 #[v, .func (.func f) #[] cap.toArray] w (Ret fun v w' => ∃ r : Int, v = .int .i64 r ∧ (r = -1 ∧ (∀ i (h : i < s.length), p s[i] = false) ∨ ∃ (k : Nat) (h : k < s.length), r = k ∧ (∀ i (h : i < s.length), i < k → p s[i] = false) ∧ p s[k] = true) ∧ St w [] w') := by
 have hS0 := hS
 clear hS
 refine enter Tryz.func89 rfl Tryz.ntmps89 rfl (fun a hk => ?_)
 have hS := St.refl w
 have hw0 : w = w := rfl
 (repeat' (first|((first|refine wx1 ?_|refine wx2 ?_ ?_<;>intro hp|refine s_end hk ?_)<;>(clear hk a;intro a hk))|((first|refine wx3 ?_;intro w b|refine wx4 ?_;intro w|refine wx5 ?_;intro w v);clear hk hS a;intro hS a hk)|refine wx0 ?_|fail))
 replace hk := Kn.kp [0, 1, 7, 8] hk
 refine wp_for s.length (fun i _ => [(8, .int .i64 (i : Int))]) (fun _ _ => []) (fun i _ => ∀ j (h : j < s.length), j < i → p s[j] = false) () hk skx hS (fun j h hj => by omega) ?_
 clear hk hS a
 rintro i - a w1 hi hk hS hF
 by_cases hil : i < s.length
 ·(repeat' (first|((first|refine wx1 ?_|refine wx2 ?_ ?_<;>intro hp|refine s_end hk ?_)<;>(clear hk a;intro a hk))|((first|refine wx3 ?_;intro w b|refine wx4 ?_;intro w|refine wx5 ?_;intro w v);clear hk hS a;intro hS a hk)|refine wx0 ?_|fail))
  refine sg hk (g_callvO (first := []) (cap := cap) hk (hf := hf) (hc := hc _ _ (List.getElem_mem _) (hS0.call hS)) (h := ?_));clear hk a;rintro _ w2 ⟨rfl, hS1⟩ a hk;replace hS := hS.call0 hS1;clear hS1
  cases hp : p s[i] with
  | true =>
   rw [hp] at hk
   (repeat' (first|((first|refine wx1 ?_|refine wx2 ?_ ?_<;>intro hp|refine s_end hk ?_)<;>(clear hk a;intro a hk))|((first|refine wx3 ?_;intro w b|refine wx4 ?_;intro w|refine wx5 ?_;intro w v);clear hk hS a;intro hS a hk)|refine wx0 ?_|fail))
   exact done1 hk (h := ⟨i, rfl, .inr ⟨i, hil, rfl, hF, hp⟩, hS.nil⟩)
  | false =>
   rw [hp] at hk
   (repeat' (first|((first|refine wx1 ?_|refine wx2 ?_ ?_<;>intro hp|refine s_end hk ?_)<;>(clear hk a;intro a hk))|((first|refine wx3 ?_;intro w b|refine wx4 ?_;intro w|refine wx5 ?_;intro w v);clear hk hS a;intro hS a hk)|refine wx0 ?_|fail))
   refine ⟨hil, (), hk.sd, hS, fun j h hj => ?_⟩
   by_cases e : j = i
   ·subst e;exact hp
   ·exact hF j h (by omega)
 ·(repeat' (first|((first|refine wx1 ?_|refine wx2 ?_ ?_<;>intro hp|refine s_end hk ?_)<;>(clear hk a;intro a hk))|((first|refine wx3 ?_;intro w b|refine wx4 ?_;intro w|refine wx5 ?_;intro w v);clear hk hS a;intro hS a hk)|refine wx0 ?_|fail))
  exact done1 hk (h := ⟨-1, rfl, .inl ⟨rfl, fun i h => hF i h (by omega)⟩, hS.nil⟩)
theorem anyN_any (p : ByteArray → Bool) (s : List ByteArray) (f : FuncId) (v : Value) (w0 : World) (hv : SlT s v w0) (hl : s.length ≤ 5000) (hf : callable Tryz.prog f = true)
  (hc : ∀ x ∈ s, ∀ w, Calls Tryz.prog f #[.string x] w (Ret fun v w' => v = .bool (p x) ∧ St w [] w')) :
  Calls Tryz.prog 49 #[v, .func (.func f) #[] #[]] w0 (Ret fun v w => v = .bool (s.any p) ∧ St w0 [] w) := by
 refine enter Tryz.func49 rfl Tryz.ntmps49 rfl (fun a hk => ?_);have hS := St.refl w0
 (repeat' (first|((first|refine wx1 ?_|refine wx2 ?_ ?_<;>intro hp|refine s_end hk ?_)<;>(clear hk a;intro a hk))|((first|refine wx3 ?_;intro w b|refine wx4 ?_;intro w|refine wx5 ?_;intro w v);clear hk hS a;intro hS a hk)|refine wx0 ?_|fail))
 refine sg hk (g_callO hk (hf := by kernel_rfl) (hc := idxN_any p s f [] v _ (St.refl _) (hS.rdT hv) hl hf (fun x w' hx _ => hc x hx w')) (h := ?_));clear hk a;rintro vr w ⟨r, rfl, hr, hS1⟩ a hk;replace hS := hS.call hS1;clear hS1
 rcases hr with ⟨rfl, hn⟩ | ⟨k, hk0, rfl, hn, hp⟩
 ·have e : s.any p = false := by
   rw [List.any_eq_false]
   intro x hx
   obtain ⟨i, hi, rfl⟩ := List.getElem_of_mem hx
   rw [hn i hi];decide
  rw [e]
  (repeat' (first|((first|refine wx1 ?_|refine wx2 ?_ ?_<;>intro hp|refine s_end hk ?_)<;>(clear hk a;intro a hk))|((first|refine wx3 ?_;intro w b|refine wx4 ?_;intro w|refine wx5 ?_;intro w v);clear hk hS a;intro hS a hk)|refine wx0 ?_|fail))
  exact done1 hk (h := ⟨rfl, hS.nil⟩)
 ·have e : s.any p = true := List.any_eq_true.2 ⟨s[k], List.getElem_mem _, hp⟩
  rw [e]
  (repeat' (first|((first|refine wx1 ?_|refine wx2 ?_ ?_<;>intro hp|refine s_end hk ?_)<;>(clear hk a;intro a hk))|((first|refine wx3 ?_;intro w b|refine wx4 ?_;intro w|refine wx5 ?_;intro w v);clear hk hS a;intro hS a hk)|refine wx0 ?_|fail))
  exact done1 hk (h := ⟨rfl, hS.nil⟩)
theorem lasts_any (n : Int) (w0 : World) : Calls Tryz.prog 121 #[.int .i64 n] w0 (Ret fun v w => v = .bool (lasts n) ∧ St w0 [] w) := by
 refine enter Tryz.func121 rfl Tryz.ntmps121 rfl (fun a hk => ?_);have hS := St.refl w0
 by_cases h : 0 ≤ n ∧ n ≤ 1000
 ·have hl : lasts n = true := by unfold lasts;exact decide_eq_true h
  obtain ⟨h1, h2⟩ := h
  rw [hl]
  (repeat' (first|((first|refine wx1 ?_|refine wx2 ?_ ?_<;>intro hp|refine s_end hk ?_)<;>(clear hk a;intro a hk))|((first|refine wx3 ?_;intro w b|refine wx4 ?_;intro w|refine wx5 ?_;intro w v);clear hk hS a;intro hS a hk)|refine wx0 ?_|fail))
  exact done1 hk (h := ⟨rfl, hS.nil⟩)
 ·have hl : lasts n = false := by unfold lasts;exact decide_eq_false h
  rw [hl]
  (repeat' (first|((first|refine wx1 ?_|refine wx2 ?_ ?_<;>intro hp|refine s_end hk ?_)<;>(clear hk a;intro a hk))|((first|refine wx3 ?_;intro w b|refine wx4 ?_;intro w|refine wx5 ?_;intro w v);clear hk hS a;intro hS a hk)|refine wx0 ?_|fail))
  all_goals first | exact done1 hk (h := ⟨rfl, hS.nil⟩) | (exfalso;omega)
set_option maxHeartbeats 4000000 in
theorem optsMay_any (e lv m d : Int) (p q : Bool) (k : Int) (w0 : World) : Calls Tryz.prog 87 #[.agg #[.int .i64 e, .int .i64 lv, .int .i64 m, .int .i64 d, .bool p, .bool q], .int .i64 k] w0 (Ret fun v w => v = .bool (optsB (e, lv, m, d, p, q) k) ∧ St w0 [] w) := by
  have h1 := fun w0 => lasts_any e w0
  have h2 := fun w0 => lasts_any lv w0
  have h3 := fun w0 => lasts_any m w0
  unfold optsB
  simp only
  generalize lasts e = b1 at *
  generalize lasts lv = b2 at *
  generalize lasts m = b3 at *
  refine enter Tryz.func87 rfl Tryz.ntmps87 rfl (fun a hk => ?_); have hS := St.refl w0
  by_cases hk3 : k = 3
  · rw [if_pos hk3]
    (repeat' (first|((first|refine wx1 ?_|refine wx2 ?_ ?_<;>intro hp|refine s_end hk ?_)<;>(clear hk a;intro a hk))|((first|refine wx3 ?_;intro w b|refine wx4 ?_;intro w|refine wx5 ?_;intro w v);clear hk hS a;intro hS a hk)|refine wx0 ?_|fail))
    refine sg hk (g_callO hk (hf := by kernel_rfl) (hc := h1 _) (h := ?_)); clear hk a; rintro _ w ⟨rfl, hS1⟩ a hk; replace hS := hS.call0 hS1; clear hS1
    cases b1 with
    | false => (repeat' (first|((first|refine wx1 ?_|refine wx2 ?_ ?_<;>intro hp|refine s_end hk ?_)<;>(clear hk a;intro a hk))|((first|refine wx3 ?_;intro w b|refine wx4 ?_;intro w|refine wx5 ?_;intro w v);clear hk hS a;intro hS a hk)|refine wx0 ?_|fail)); exact done1 hk (h := ⟨rfl, hS.nil⟩)
    | true =>
      (repeat' (first|((first|refine wx1 ?_|refine wx2 ?_ ?_<;>intro hp|refine s_end hk ?_)<;>(clear hk a;intro a hk))|((first|refine wx3 ?_;intro w b|refine wx4 ?_;intro w|refine wx5 ?_;intro w v);clear hk hS a;intro hS a hk)|refine wx0 ?_|fail))
      refine sg hk (g_callO hk (hf := by kernel_rfl) (hc := h2 _) (h := ?_)); clear hk a; rintro _ w ⟨rfl, hS1⟩ a hk; replace hS := hS.call0 hS1; clear hS1
      cases b2 with
      | false => (repeat' (first|((first|refine wx1 ?_|refine wx2 ?_ ?_<;>intro hp|refine s_end hk ?_)<;>(clear hk a;intro a hk))|((first|refine wx3 ?_;intro w b|refine wx4 ?_;intro w|refine wx5 ?_;intro w v);clear hk hS a;intro hS a hk)|refine wx0 ?_|fail)); exact done1 hk (h := ⟨rfl, hS.nil⟩)
      | true =>
        (repeat' (first|((first|refine wx1 ?_|refine wx2 ?_ ?_<;>intro hp|refine s_end hk ?_)<;>(clear hk a;intro a hk))|((first|refine wx3 ?_;intro w b|refine wx4 ?_;intro w|refine wx5 ?_;intro w v);clear hk hS a;intro hS a hk)|refine wx0 ?_|fail))
        refine sg hk (g_callO hk (hf := by kernel_rfl) (hc := h3 _) (h := ?_)); clear hk a; rintro _ w ⟨rfl, hS1⟩ a hk; replace hS := hS.call0 hS1; clear hS1
        cases b3 with
        | false => (repeat' (first|((first|refine wx1 ?_|refine wx2 ?_ ?_<;>intro hp|refine s_end hk ?_)<;>(clear hk a;intro a hk))|((first|refine wx3 ?_;intro w b|refine wx4 ?_;intro w|refine wx5 ?_;intro w v);clear hk hS a;intro hS a hk)|refine wx0 ?_|fail)); exact done1 hk (h := ⟨rfl, hS.nil⟩)
        | true =>
          (repeat' (first|((first|refine wx1 ?_|refine wx2 ?_ ?_<;>intro hp|refine s_end hk ?_)<;>(clear hk a;intro a hk))|((first|refine wx3 ?_;intro w b|refine wx4 ?_;intro w|refine wx5 ?_;intro w v);clear hk hS a;intro hS a hk)|refine wx0 ?_|fail))
          · exact done1 hk (h := ⟨by have e0 : d = 0 := by assumption
                                     simp [e0], hS.nil⟩)
          · exact done1 hk (h := ⟨by have e0 : ¬ d = 0 := by assumption
                                     simp [e0], hS.nil⟩)
  · rw [if_neg hk3]
    by_cases hk4 : k = 4
    · rw [if_pos hk4]
      (repeat' (first|((first|refine wx1 ?_|refine wx2 ?_ ?_<;>intro hp|refine s_end hk ?_)<;>(clear hk a;intro a hk))|((first|refine wx3 ?_;intro w b|refine wx4 ?_;intro w|refine wx5 ?_;intro w v);clear hk hS a;intro hS a hk)|refine wx0 ?_|fail))
      refine sg hk (g_callO hk (hf := by kernel_rfl) (hc := h1 _) (h := ?_)); clear hk a; rintro _ w ⟨rfl, hS1⟩ a hk; replace hS := hS.call0 hS1; clear hS1
      cases b1 with
      | false => (repeat' (first|((first|refine wx1 ?_|refine wx2 ?_ ?_<;>intro hp|refine s_end hk ?_)<;>(clear hk a;intro a hk))|((first|refine wx3 ?_;intro w b|refine wx4 ?_;intro w|refine wx5 ?_;intro w v);clear hk hS a;intro hS a hk)|refine wx0 ?_|fail)); exact done1 hk (h := ⟨rfl, hS.nil⟩)
      | true =>
        (repeat' (first|((first|refine wx1 ?_|refine wx2 ?_ ?_<;>intro hp|refine s_end hk ?_)<;>(clear hk a;intro a hk))|((first|refine wx3 ?_;intro w b|refine wx4 ?_;intro w|refine wx5 ?_;intro w v);clear hk hS a;intro hS a hk)|refine wx0 ?_|fail))
        refine sg hk (g_callO hk (hf := by kernel_rfl) (hc := h2 _) (h := ?_)); clear hk a; rintro _ w ⟨rfl, hS1⟩ a hk; replace hS := hS.call0 hS1; clear hS1
        cases b2 with
        | false => (repeat' (first|((first|refine wx1 ?_|refine wx2 ?_ ?_<;>intro hp|refine s_end hk ?_)<;>(clear hk a;intro a hk))|((first|refine wx3 ?_;intro w b|refine wx4 ?_;intro w|refine wx5 ?_;intro w v);clear hk hS a;intro hS a hk)|refine wx0 ?_|fail)); exact done1 hk (h := ⟨rfl, hS.nil⟩)
        | true =>
          by_cases hm : m = 0
          · cases q with
            | true => (repeat' (first|((first|refine wx1 ?_|refine wx2 ?_ ?_<;>intro hp|refine s_end hk ?_)<;>(clear hk a;intro a hk))|((first|refine wx3 ?_;intro w b|refine wx4 ?_;intro w|refine wx5 ?_;intro w v);clear hk hS a;intro hS a hk)|refine wx0 ?_|fail)); exact done1 hk (h := ⟨by simp, hS.nil⟩)
            | false =>
              by_cases hd : 0 ≤ d
              · by_cases hd2 : d ≤ 2
                · (repeat' (first|((first|refine wx1 ?_|refine wx2 ?_ ?_<;>intro hp|refine s_end hk ?_)<;>(clear hk a;intro a hk))|((first|refine wx3 ?_;intro w b|refine wx4 ?_;intro w|refine wx5 ?_;intro w v);clear hk hS a;intro hS a hk)|refine wx0 ?_|fail))
                  exact done1 hk (h := ⟨by simp [hm, hd, hd2], hS.nil⟩)
                · (repeat' (first|((first|refine wx1 ?_|refine wx2 ?_ ?_<;>intro hp|refine s_end hk ?_)<;>(clear hk a;intro a hk))|((first|refine wx3 ?_;intro w b|refine wx4 ?_;intro w|refine wx5 ?_;intro w v);clear hk hS a;intro hS a hk)|refine wx0 ?_|fail))
                  exact done1 hk (h := ⟨by simp [hd2], hS.nil⟩)
              · (repeat' (first|((first|refine wx1 ?_|refine wx2 ?_ ?_<;>intro hp|refine s_end hk ?_)<;>(clear hk a;intro a hk))|((first|refine wx3 ?_;intro w b|refine wx4 ?_;intro w|refine wx5 ?_;intro w v);clear hk hS a;intro hS a hk)|refine wx0 ?_|fail))
                exact done1 hk (h := ⟨by simp [hd], hS.nil⟩)
          · (repeat' (first|((first|refine wx1 ?_|refine wx2 ?_ ?_<;>intro hp|refine s_end hk ?_)<;>(clear hk a;intro a hk))|((first|refine wx3 ?_;intro w b|refine wx4 ?_;intro w|refine wx5 ?_;intro w v);clear hk hS a;intro hS a hk)|refine wx0 ?_|fail))
            exact done1 hk (h := ⟨by simp [hm], hS.nil⟩)
    · rw [if_neg hk4]
      (repeat' (first|((first|refine wx1 ?_|refine wx2 ?_ ?_<;>intro hp|refine s_end hk ?_)<;>(clear hk a;intro a hk))|((first|refine wx3 ?_;intro w b|refine wx4 ?_;intro w|refine wx5 ?_;intro w v);clear hk hS a;intro hS a hk)|refine wx0 ?_|fail))
      · exact done1 hk (h := ⟨by have e0 := eqC_enc (α := Opt) (x := (e, lv, m, d, p, q)) (y := (0, 0, 0, 0, false, false)) (b := true) (by assumption)
                                 rw [if_pos rfl] at e0
                                 rw [decide_eq_true e0], hS.nil⟩)
      · exact done1 hk (h := ⟨by have e0 := eqC_enc (α := Opt) (x := (e, lv, m, d, p, q)) (y := (0, 0, 0, 0, false, false)) (b := false) (by assumption)
                                 rw [if_neg (by decide)] at e0
                                 rw [decide_eq_false e0], hS.nil⟩)
end Go.Proofs.YtnjmonkehjlaoaaGreatDoor
