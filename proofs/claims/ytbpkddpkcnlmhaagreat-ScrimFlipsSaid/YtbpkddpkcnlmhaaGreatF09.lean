/- Layer 10: what the functions on lists of numbers compute. Layer 12: places of numbers, each number once. Layer 12: a number put in, taken out; moves counted. Layer 12: the reference's way to put a number in, to take one out; moves counted. Layer 12: a number put in and taken out by the program; by the reference. Layer 12: those that stay where they are. Layer 12: the longest row doesn't ask how high the numbers lie. Layer 12: the law's own few; is a number there. Layer 12: steps done by the reference. -/
import Derived.Test.YtbpkddpkcnlmhaaGreatF08
import Derived.Test.YtbpkddpkcnlmhaaGreatF06
import Derived.Test.YtbpkddpkcnlmhaaGreatF07
set_option linter.all false
namespace Go.Proofs.YtbpkddpkcnlmhaaGreat
open Go.RowKit
set_option maxRecDepth 100000
attribute [local irreducible] Go.Code.wpIn Go.wpListIn Go.Calls Gives Go.Exit.then Go.Exit.inBlock Done ObxE
theorem cmp_any (x y : Int) (w0 : World) : Calls Tryz.prog 60 #[.int .i64 x, .int .i64 y] w0 (Ret fun v w => v = .int .i64 (if x < y then -1 else if y < x then 1 else 0) ∧ St w0 [] w) := by
 have nan : ∀ (z : Int) (w0 : World), Calls Tryz.prog 84 #[.int .i64 z] w0 (Ret fun v w => v = .bool false ∧ St w0 [] w) := by
  intro z w0
  refine enter Tryz.func84 rfl Tryz.ntmps84 rfl (fun a hk => ?_);have hS := St.refl w0
  (repeat' (first|((first|refine wx1 ?_|refine wx2 ?_ ?_<;>intro hp|refine s_end hk ?_)<;>(clear hk a;intro a hk))|((first|refine wx3 ?_;intro w b|refine wx4 ?_;intro w|refine wx5 ?_;intro w v);clear hk hS a;intro hS a hk)|refine wx0 ?_|fail))
  all_goals exact done1 hk (h := ⟨rfl, hS.nil⟩)
 refine enter Tryz.func60 rfl Tryz.ntmps60 rfl (fun a hk => ?_);have hS := St.refl w0
 (repeat' (first|((first|refine wx1 ?_|refine wx2 ?_ ?_<;>intro hp|refine s_end hk ?_)<;>(clear hk a;intro a hk))|((first|refine wx3 ?_;intro w b|refine wx4 ?_;intro w|refine wx5 ?_;intro w v);clear hk hS a;intro hS a hk)|refine wx0 ?_|fail))
 refine sg hk (g_callO hk (hf := by kernel_rfl) (hc := nan x _) (h := ?_));clear hk a;rintro _ w ⟨rfl, hS1⟩ a hk;replace hS := hS.call0 hS1;clear hS1
 (repeat' (first|((first|refine wx1 ?_|refine wx2 ?_ ?_<;>intro hp|refine s_end hk ?_)<;>(clear hk a;intro a hk))|((first|refine wx3 ?_;intro w b|refine wx4 ?_;intro w|refine wx5 ?_;intro w v);clear hk hS a;intro hS a hk)|refine wx0 ?_|fail))
 refine sg hk (g_callO hk (hf := by kernel_rfl) (hc := nan y _) (h := ?_));clear hk a;rintro _ w ⟨rfl, hS1⟩ a hk;replace hS := hS.call0 hS1;clear hS1
 (repeat' (first|((first|refine wx1 ?_|refine wx2 ?_ ?_<;>intro hp|refine s_end hk ?_)<;>(clear hk a;intro a hk))|((first|refine wx3 ?_;intro w b|refine wx4 ?_;intro w|refine wx5 ?_;intro w v);clear hk hS a;intro hS a hk)|refine wx0 ?_|fail))
 ·exact done1 hk (h := ⟨by rw [if_pos (by assumption)], hS.nil⟩)
 ·exact done1 hk (h := ⟨by rw [if_neg (by assumption), if_pos (by assumption)], hS.nil⟩)
 ·exact done1 hk (h := ⟨by rw [if_neg (by assumption), if_neg (by assumption)], hS.nil⟩)
theorem of1_any (l : List Int) (p y : Int) (b : Nat) (va : Value) (w0 : World) (ha : SlT l va w0) (hb : (pts b [va] 22).rd w0) (h0 : 0 ≤ p) (h1 : p < l.length) :
  Calls Tryz.prog 91 #[.int .i64 p, .int .i64 y, .pointer (some ⟨b, 0, none⟩)] w0 (Ret fun v w => v = .int .i64 (if at_ l p.toNat < y then -1 else if y < at_ l p.toNat then 1 else 0) ∧ St w0 [] w) := by
 refine enter Tryz.func91 rfl Tryz.ntmps91 rfl (fun a hk => ?_);have hS := St.refl w0
 (repeat' (first|((first|refine wx1 ?_|refine wx2 ?_ ?_<;>intro hp|refine s_end hk ?_)<;>(clear hk a;intro a hk))|((first|refine wx3 ?_;intro w b|refine wx4 ?_;intro w|refine wx5 ?_;intro w v);clear hk hS a;intro hS a hk)|refine wx0 ?_|fail))
 refine sg hk (g_callO hk (hf := by kernel_rfl) (hc := cmp_any _ _ _) (h := ?_));clear hk a;rintro _ w ⟨rfl, hS1⟩ a hk;replace hS := hS.call0 hS1;clear hS1
 (repeat' (first|((first|refine wx1 ?_|refine wx2 ?_ ?_<;>intro hp|refine s_end hk ?_)<;>(clear hk a;intro a hk))|((first|refine wx3 ?_;intro w b|refine wx4 ?_;intro w|refine wx5 ?_;intro w v);clear hk hS a;intro hS a hk)|refine wx0 ?_|fail))
 refine done1 hk (h := ⟨?_, hS.nil⟩)
 have e : at_ l p.toNat = l[p.toNat]'(by omega) := by simp [at_, List.getD_eq_getElem?_getD, List.getElem?_eq_getElem (show p.toNat < l.length by omega)]
 rw [e]
theorem bs_any (l es : List Int) (x : Int) (b : Nat) (v va : Value) (w0 : World) (hv : SlT es v w0) (hb : (pts b [va] 22).rd w0) (ha : SlT l va w0) (hl : es.length ≤ 1000)
  (hes : ∀ i (h : i < es.length), 0 ≤ es[i] ∧ es[i] < l.length) (hs : ∀ i j (h : i < j) (hj : j < es.length), at_ l es[i].toNat < at_ l es[j].toNat) :
  Calls Tryz.prog 90 #[v, .int .i64 x, .func (.func 91) #[] #[.pointer (some ⟨b, 0, none⟩)]] w0
  (Ret fun v w => ∃ (n : Nat) (f : Bool), v = .tuple #[.int .i64 n, .bool f] ∧ n ≤ es.length ∧ (∀ i (h : i < es.length), i < n → at_ l es[i].toNat < x) ∧ (∀ i (h : i < es.length), n ≤ i → x ≤ at_ l es[i].toNat) ∧ St w0 [] w) := by
 refine enter Tryz.func90 rfl Tryz.ntmps90 rfl (fun a hk => ?_);have hS := St.refl w0
 (repeat' (first|((first|refine wx1 ?_|refine wx2 ?_ ?_<;>intro hp|refine s_end hk ?_)<;>(clear hk a;intro a hk))|((first|refine wx3 ?_;intro w b|refine wx4 ?_;intro w|refine wx5 ?_;intro w v);clear hk hS a;intro hS a hk)|refine wx0 ?_|fail))
 replace hk := Kn.kp [0, 1, 2, 8, 9, 10] hk
 refine wp_while (fun x : Nat × Nat => [(9, .int .i64 (x.1 : Int)), (10, .int .i64 (x.2 : Int))]) (fun _ => []) (fun s => s.1 ≤ s.2 ∧ s.2 ≤ es.length ∧ (∀ i (h : i < es.length), i < s.1 → at_ l es[i].toNat < x) ∧ (∀ i (h : i < es.length), s.2 ≤ i → x ≤ at_ l es[i].toNat)) (fun x => x.2 - x.1) (0, es.length) hk skx hS ⟨by omega, by omega, fun i h h1 => by omega, fun i h h1 => by omega⟩ ?_
 clear hk hS a
 rintro ⟨i, j⟩ a w hk hS ⟨h1, h2, h3, h4⟩
 simp only at hk h1 h2 h3 h4
 (repeat' (first|((first|refine wx1 ?_|refine wx2 ?_ ?_<;>intro hp|refine s_end hk ?_)<;>(clear hk a;intro a hk))|((first|refine wx3 ?_;intro w b|refine wx4 ?_;intro w|refine wx5 ?_;intro w v);clear hk hS a;intro hS a hk)|refine wx0 ?_|fail))
 ·obtain ⟨g1, g2⟩ := hes ((i + j) / 2) (by omega)
  have e : ((i : Int) + j) / 2 = ((i + j) / 2 : Nat) := by omega
  simp only [e, Int.toNat_natCast] at hk
  refine sg hk (g_callvO hk (hf := by kernel_rfl) (hc := of1_any l _ x b va _ (hS.rdT ha) (hS.base hb) g1 g2) (h := ?_));clear hk a;rintro _ w ⟨rfl, hS1⟩ a hk;replace hS := hS.call0 hS1;clear hS1
  by_cases hc : at_ l (es[(i + j) / 2]'(by omega)).toNat < x
  ·rw [if_pos hc] at hk
   (repeat' (first|((first|refine wx1 ?_|refine wx2 ?_ ?_<;>intro hp|refine s_end hk ?_)<;>(clear hk a;intro a hk))|((first|refine wx3 ?_;intro w b|refine wx4 ?_;intro w|refine wx5 ?_;intro w v);clear hk hS a;intro hS a hk)|refine wx0 ?_|fail))
   refine ⟨((i + j) / 2 + 1, j), by simp only;omega, hk.subD (by (repeat (first | exact trivial | refine ⟨rfl, ?_⟩ | refine ⟨trivial, ?_⟩));fail_if_success focus skip), hS, by simp only;omega, h2, fun k h hk2 => ?_, h4⟩
   simp only at hk2
   by_cases e : k = (i + j) / 2
   ·subst e;exact hc
   ·exact Int.lt_trans (hs k ((i + j) / 2) (by omega) (by omega)) hc
  ·have hn : ¬ (if at_ l (es[(i + j) / 2]'(by omega)).toNat < x then (-1 : Int) else if x < at_ l (es[(i + j) / 2]'(by omega)).toNat then 1 else 0) < 0 := by
    rw [if_neg hc];split <;> omega
   (repeat' (first|((first|refine wx1 ?_|refine wx2 ?_ ?_<;>intro hp|refine s_end hk ?_)<;>(clear hk a;intro a hk))|((first|refine wx3 ?_;intro w b|refine wx4 ?_;intro w|refine wx5 ?_;intro w v);clear hk hS a;intro hS a hk)|refine wx0 ?_|fail))
   refine ⟨(i, (i + j) / 2), by simp only;omega, hk.subD (by (repeat (first | exact trivial | refine ⟨rfl, ?_⟩ | refine ⟨trivial, ?_⟩));fail_if_success focus skip), hS, by simp only;omega, by simp only;omega, h3, fun k h hk2 => ?_⟩
   simp only at hk2
   by_cases e : k = (i + j) / 2
   ·subst e;omega
   ·have := hs ((i + j) / 2) k (by omega) h
    omega
 ·obtain ⟨g1, g2⟩ := hes i (by omega)
  refine sg hk (g_callvO hk (hf := by kernel_rfl) (hc := of1_any l _ x b va _ (hS.rdT ha) (hS.base hb) g1 g2) (h := ?_));clear hk a;rintro _ w ⟨rfl, hS1⟩ a hk;replace hS := hS.call0 hS1;clear hS1
  (repeat' (first|((first|refine wx1 ?_|refine wx2 ?_ ?_<;>intro hp|refine s_end hk ?_)<;>(clear hk a;intro a hk))|((first|refine wx3 ?_;intro w b|refine wx4 ?_;intro w|refine wx5 ?_;intro w v);clear hk hS a;intro hS a hk)|refine wx0 ?_|fail))
  all_goals exact done2 hk (h := ⟨i, _, rfl, by omega, h3, fun k h hk2 => h4 k h (by omega), hS.nil⟩)
 ·exact done2 hk (h := ⟨i, _, rfl, by omega, h3, fun k h hk2 => h4 k h (by omega), hS.nil⟩)
set_option maxHeartbeats 1000000 in
theorem lisOf_any (l : List Int) (va : Value) (w0 : World) (ha : SlT l va w0) (hl : l.length ≤ 1000) :
    Calls Tryz.prog 71 #[va] w0 (Ret fun v w => St w0 [OwT 3 (lisF l) v] w) := by
  obtain ⟨ao, c, rfl, _⟩ := ha.shape
  refine enter Tryz.func71 rfl Tryz.ntmps71 rfl (fun a hk => ?_); have hS := St.refl w0
  (repeat' (first|((first|refine wx1 ?_|refine wx2 ?_ ?_<;>intro hp|refine s_end hk ?_)<;>(clear hk a;intro a hk))|((first|refine wx3 ?_;intro w b|refine wx4 ?_;intro w|refine wx5 ?_;intro w v);clear hk hS a;intro hS a hk)|refine wx0 ?_|fail))
  refine sg hk (g_mkT (z := (0 : Int)) (m := l.length) hk hS ?_ (hT := eT rfl) (hE := zT rfl) (hz := oT rfl) (hby := bT rfl) (hm := by simp only [maxLen]; omega) (hbytes := by omega)); clear hk hS a; intro w va hS a hk
  (repeat' (first|((first|refine wx1 ?_|refine wx2 ?_ ?_<;>intro hp|refine s_end hk ?_)<;>(clear hk a;intro a hk))|((first|refine wx3 ?_;intro w b|refine wx4 ?_;intro w|refine wx5 ?_;intro w v);clear hk hS a;intro hS a hk)|refine wx0 ?_|fail))
  replace hS := hS.nilT 3 Int
  replace hk := Kn.kp [1, 3, 4, 14, 15, 16] hk
  refine wp_for l.length (fun i v => [(3, v), (16, .int .i64 (i : Int))]) (fun i v => [OwT 3 (endsF l i) v, OwT 3 (aheadF l l.length i) va, pts b [.slice ao l.length c] 22]) (fun _ _ => True) (.slice none 0 0) hk skx (by rw [ahead_zero]; exact hS) trivial ?_
  clear hk hS a
  rintro i ve a w hi hk hS -
  have hel := ends_len l i
  have htl := top_le l i
  have hal := ahead_len l l.length i
  have hes : ∀ k (h : k < (endsF l i).length), 0 ≤ (endsF l i)[k] ∧ (endsF l i)[k] < l.length := by
    intro k h
    obtain ⟨j, hj, he⟩ := ends_get h
    have := (best_some hj).1
    rw [he]; omega
  have hsr : ∀ k j (h : k < j) (hj : j < (endsF l i).length), at_ l (endsF l i)[k].toNat < at_ l (endsF l i)[j].toNat := by
    intro k j h hj
    obtain ⟨p, hp, he⟩ := ends_get (l := l) (i := i) (k := k) (by omega)
    obtain ⟨q, hq, he'⟩ := ends_get hj
    rw [he, he', Int.toNat_natCast, Int.toNat_natCast]
    exact best_mono (by omega) hp hq
  (repeat' (first|((first|refine wx1 ?_|refine wx2 ?_ ?_<;>intro hp|refine s_end hk ?_)<;>(clear hk a;intro a hk))|((first|refine wx3 ?_;intro w b|refine wx4 ?_;intro w|refine wx5 ?_;intro w v);clear hk hS a;intro hS a hk)|refine wx0 ?_|fail))
  · refine sg hk (g_callO hk (hf := by kernel_rfl) (hc := bs_any l (endsF l i) _ b ve (.slice ao l.length c) _ (by first | exact St.rdT hS (by assumption) | exact OwT.rd (hS.rd (A := OwT _ _ _) atx) | assumption) (hS.rd atx) (hS.rdT ha) (by omega) hes hsr) (h := ?_)); clear hk a; rintro vr w ⟨n, f, rfl, hn, h1, h2, hS1⟩ a hk; replace hS := hS.call hS1; clear hS1
    have hil : i < l.length := by omega
    rw [at_get hil] at h1 h2
    have hln := ln_found hn h1 h2
    have hpv := prev_found hln hn
    (repeat' (first|((first|refine wx1 ?_|refine wx2 ?_ ?_<;>intro hp|refine s_end hk ?_)<;>(clear hk a;intro a hk))|((first|refine wx3 ?_;intro w b|refine wx4 ?_;intro w|refine wx5 ?_;intro w v);clear hk hS a;intro hS a hk)|refine wx0 ?_|fail))
    · have e : (endsF l i)[((n : Int) - 1).toNat]'(by omega) = prevF l i := by
        rw [hpv, dif_pos (by omega)]; congr 1; omega
      rw [List.set_set, e, ← ahead_set, ← ends_app (by omega)] at hS
      exact ⟨hil, _, hk.subD (by (repeat (first | exact trivial | refine ⟨rfl, ?_⟩ | refine ⟨trivial, ?_⟩)); fail_if_success focus skip), hS.sb, trivial⟩
    · have e : (endsF l i)[((n : Int) - 1).toNat]'(by omega) = prevF l i := by
        rw [hpv, dif_pos (by omega)]; congr 1; omega
      rw [List.set_set, e, ← ahead_set] at hS
      obtain ⟨jn, hjn, hen⟩ := ends_get (l := l) (i := i) (k := n) (by omega)
      have hji := (best_some hjn).1
      refine wp_drawn 10 mixed (by kernel_rfl) hk hS ?_; clear hk hS a
      (repeat' (first|(show ObxE _ _ _ _ _ _ _ _ _ (_::_) _ _ _;first|refine ox1 ?_|refine ox2 ?_ ?_<;>intro hp)|fail))
      · refine obe_nil ⟨rfl, ?_⟩; intro us a w hk hS
        (repeat' (first|((first|refine wx1 ?_|refine wx2 ?_ ?_<;>intro hp|refine s_end hk ?_)<;>(clear hk a;intro a hk))|((first|refine wx3 ?_;intro w b|refine wx4 ?_;intro w|refine wx5 ?_;intro w v);clear hk hS a;intro hS a hk)|refine wx0 ?_|fail))
        rw [at_get hil, at_get (by omega)] at hp
        simp only [hen, Int.toNat_natCast] at hp
        rw [← ends_set hln (by omega) hjn hp] at hS
        exact ⟨hil, _, hk.subD (by (repeat (first | exact trivial | refine ⟨rfl, ?_⟩ | refine ⟨trivial, ?_⟩)); fail_if_success focus skip), hS.sb, trivial⟩
      · refine obe_nil ⟨rfl, ?_⟩; intro us a w hk hS
        (repeat' (first|((first|refine wx1 ?_|refine wx2 ?_ ?_<;>intro hp|refine s_end hk ?_)<;>(clear hk a;intro a hk))|((first|refine wx3 ?_;intro w b|refine wx4 ?_;intro w|refine wx5 ?_;intro w v);clear hk hS a;intro hS a hk)|refine wx0 ?_|fail))
        rw [at_get hil, at_get (by omega)] at hp
        simp only [hen, Int.toNat_natCast] at hp
        rw [← ends_same hln (by omega) hjn hp] at hS
        exact ⟨hil, _, hk.subD (by (repeat (first | exact trivial | refine ⟨rfl, ?_⟩ | refine ⟨trivial, ?_⟩)); fail_if_success focus skip), hS.sb, trivial⟩
    · rw [show (-1 : Int) = prevF l i by rw [hpv, dif_neg (by omega)], ← ahead_set, ← ends_app (by omega)] at hS
      exact ⟨hil, _, hk.subD (by (repeat (first | exact trivial | refine ⟨rfl, ?_⟩ | refine ⟨trivial, ?_⟩)); fail_if_success focus skip), hS.sb, trivial⟩
    · rw [show (-1 : Int) = prevF l i by rw [hpv, dif_neg (by omega)], ← ahead_set] at hS
      obtain ⟨jn, hjn, hen⟩ := ends_get (l := l) (i := i) (k := n) (by omega)
      have hji := (best_some hjn).1
      refine wp_drawn 10 mixed (by kernel_rfl) hk hS ?_; clear hk hS a
      (repeat' (first|(show ObxE _ _ _ _ _ _ _ _ _ (_::_) _ _ _;first|refine ox1 ?_|refine ox2 ?_ ?_<;>intro hp)|fail))
      · refine obe_nil ⟨rfl, ?_⟩; intro us a w hk hS
        (repeat' (first|((first|refine wx1 ?_|refine wx2 ?_ ?_<;>intro hp|refine s_end hk ?_)<;>(clear hk a;intro a hk))|((first|refine wx3 ?_;intro w b|refine wx4 ?_;intro w|refine wx5 ?_;intro w v);clear hk hS a;intro hS a hk)|refine wx0 ?_|fail))
        rw [at_get hil, at_get (by omega)] at hp
        simp only [hen, Int.toNat_natCast] at hp
        rw [← ends_set hln (by omega) hjn hp] at hS
        exact ⟨hil, _, hk.subD (by (repeat (first | exact trivial | refine ⟨rfl, ?_⟩ | refine ⟨trivial, ?_⟩)); fail_if_success focus skip), hS.sb, trivial⟩
      · refine obe_nil ⟨rfl, ?_⟩; intro us a w hk hS
        (repeat' (first|((first|refine wx1 ?_|refine wx2 ?_ ?_<;>intro hp|refine s_end hk ?_)<;>(clear hk a;intro a hk))|((first|refine wx3 ?_;intro w b|refine wx4 ?_;intro w|refine wx5 ?_;intro w v);clear hk hS a;intro hS a hk)|refine wx0 ?_|fail))
        rw [at_get hil, at_get (by omega)] at hp
        simp only [hen, Int.toNat_natCast] at hp
        rw [← ends_same hln (by omega) hjn hp] at hS
        exact ⟨hil, _, hk.subD (by (repeat (first | exact trivial | refine ⟨rfl, ?_⟩ | refine ⟨trivial, ?_⟩)); fail_if_success focus skip), hS.sb, trivial⟩
  · refine done1 hk (h := ?_)
    have h0 : top l l.length = 0 := by rw [← ends_len]; have : i = l.length := by omega
                                       subst this; omega
    have : lisF l = [] := by simp [lisF, h0, down]
    rw [this]
    exact (hS.sub .nil).nilT 3 Int
  · have hin : i = l.length := by omega
    subst hin
    obtain ⟨q, hq, he⟩ := ends_get (l := l) (i := l.length) (k := (endsF l l.length).length - 1) (by omega)
    have hlast : (endsF l l.length)[(((endsF l l.length).length : Int) - 1).toNat]'(by omega) = (q : Int) := by
      rw [← he]; congr 1; omega
    simp only [hlast] at hk
    have hq1 := best_some hq
    replace hS := hS.nilT 3 Int
    replace hk := Kn.kp [4, 9, 10] hk
    refine wp_while (fun x : List Int × Int × Value => [(9, x.2.2), (10, .int .i64 x.2.1)]) (fun x => [OwT 3 x.1 x.2.2, OwT 3 (aheadF l l.length l.length) va])
      (fun x => x.1 ++ restF l x.2.1 = down l l.length (top l l.length) ∧ -1 ≤ x.2.1 ∧ x.2.1 < l.length) (fun x => (x.2.1 + 1).toNat) ([], q, .slice none 0 0) hk skx hS.sb ⟨?_, by simp only; omega, by simp only; omega⟩ ?_
    · simp only [List.nil_append]
      rw [down_rest hq]
      congr 1
      omega
    clear hk hS a
    rintro ⟨out, at', vo⟩ a w hk hS ⟨hF1, hF2, hF3⟩
    simp only at hk hS hF1 hF2 hF3
    have hol : out.length ≤ 1000 := by
      have h1 := down_len l (top l l.length) l.length
      have h2 := congrArg List.length hF1
      rw [List.length_append] at h2
      omega
    have hne : down l l.length (top l l.length) ≠ [] := by
      have := down_rest hq
      rw [show (endsF l l.length).length - 1 + 1 = top l l.length by omega, rest_step] at this
      rw [← this]; simp
    (repeat' (first|((first|refine wx1 ?_|refine wx2 ?_ ?_<;>intro hp|refine s_end hk ?_)<;>(clear hk a;intro a hk))|((first|refine wx3 ?_;intro w b|refine wx4 ?_;intro w|refine wx5 ?_;intro w v);clear hk hS a;intro hS a hk)|refine wx0 ?_|fail))
    · have h1 : at' = -1 := by omega
      subst h1
      have hout : out = down l l.length (top l l.length) := by simpa [restF] using hF1
      subst hout
      refine sg hk (g_callO hk (hf := by kernel_rfl) (hc := rev_any hS At.here hne (by omega)) (h := ?_)); clear hk hS a; intro vr w hS a hk
      (repeat' (first|((first|refine wx1 ?_|refine wx2 ?_ ?_<;>intro hp|refine s_end hk ?_)<;>(clear hk a;intro a hk))|((first|refine wx3 ?_;intro w b|refine wx4 ?_;intro w|refine wx5 ?_;intro w v);clear hk hS a;intro hS a hk)|refine wx0 ?_|fail))
      exact done1 hk (h := hS.sb)
    · obtain ⟨p, rfl⟩ : ∃ p : Nat, at' = p := ⟨at'.toNat, by omega⟩
      simp only [Int.toNat_natCast, ahead_get] at hk
      have := prev_lt l p
      exact ⟨(_, prevF l p, _), by simp only; omega, hk.subD (by (repeat (first | exact trivial | refine ⟨rfl, ?_⟩ | refine ⟨trivial, ?_⟩)); fail_if_success focus skip), hS, by simp only [List.append_assoc, List.cons_append, List.nil_append]; rw [← rest_step]; exact hF1, by simp only; omega, by simp only; omega⟩
end Go.Proofs.YtbpkddpkcnlmhaaGreat
namespace Go.Proofs.YtbpkddpkcnlmhaaGreat
open Go.RowKit
set_option maxRecDepth 100000
attribute [local irreducible] Go.Code.wpIn Go.wpListIn Go.Calls Gives Go.Exit.then Go.Exit.inBlock Done ObxE
def encW (n : Int) : Value := .int .i64 n
theorem keyW : KeyT Tryz.prog 3 encW := keyInt (iT rfl)
theorem places_any (l : List Int) (v : Value) (w0 : World) (hv : SlT l v w0) (hl : l.length ≤ 1000) :
  Calls Tryz.prog 46 #[v] w0 (Ret fun v w => ∃ m, (∀ k, (getL m k).getD (.int .i64 0) = .int .i64 (posI l k : Nat)) ∧ St w0 [mapH encW v m] w) := by
 refine enter Tryz.func46 rfl Tryz.ntmps46 rfl (fun a hk => ?_);have hS := St.refl w0
 (repeat' (first|((first|refine wx1 ?_|refine wx2 ?_ ?_<;>intro hp|refine s_end hk ?_)<;>(clear hk a;intro a hk))|((first|refine wx3 ?_;intro w b|refine wx4 ?_;intro w|refine wx5 ?_;intro w v);clear hk hS a;intro hS a hk)|refine wx0 ?_|fail))
 refine sg hk (g_makeMapN encW hk hS ?_ (mT rfl));clear hk hS a;intro w mv hS a hk
 (repeat' (first|((first|refine wx1 ?_|refine wx2 ?_ ?_<;>intro hp|refine s_end hk ?_)<;>(clear hk a;intro a hk))|((first|refine wx3 ?_;intro w b|refine wx4 ?_;intro w|refine wx5 ?_;intro w v);clear hk hS a;intro hS a hk)|refine wx0 ?_|fail))
 replace hk := Kn.kp [3, 9, 10, 11] hk
 refine wp_for l.length (fun i _ => [(11, .int .i64 (i : Int))]) (fun _ m => [mapH encW mv m]) (fun i m => ∀ k, (getL m k).getD (.int .i64 0) = .int .i64 (posI (l.take i) k : Nat)) [] hk skx hS.sb (fun k => by simp [getL, posK, posI]) ?_
 clear hk hS a
 rintro i m a w hi hk hS hF
 have hv1 := hS.rdT hv
 by_cases hil : i < l.length
 ·obtain ⟨x, hx⟩ : ∃ x, l[i]? = some x := ⟨_, List.getElem?_eq_getElem hil⟩
  have hz := pos_zero (l := l.take i) (id := x)
  have htl : (l.take i).length = i := by rw [List.length_take];omega
  have hps := pos_snoc (l.take i) x
  rw [← take_snocW hx, htl] at hps
  (repeat' (first|((first|refine wx1 ?_|refine wx2 ?_ ?_<;>intro hp|refine s_end hk ?_)<;>(clear hk a;intro a hk))|((first|refine wx3 ?_;intro w b|refine wx4 ?_;intro w|refine wx5 ?_;intro w v);clear hk hS a;intro hS a hk)|refine wx0 ?_|fail))
  refine sg hk (g_lookup (k := x) hk (hS.rd (A := mapH encW mv m) atx) ?_ (mT rfl) keyW (oT rfl));clear hk a;intro a hk
  rw [hF x] at hk
  by_cases hin : x ∈ l.take i
  ·have h0 : posI (l.take i) x ≠ 0 := fun h => hz.1 h hin
   (repeat' (first|((first|refine wx1 ?_|refine wx2 ?_ ?_<;>intro hp|refine s_end hk ?_)<;>(clear hk a;intro a hk))|((first|refine wx3 ?_;intro w b|refine wx4 ?_;intro w|refine wx5 ?_;intro w v);clear hk hS a;intro hS a hk)|refine wx0 ?_|fail))
   refine ⟨hil, _, hk.sd, hS.sb, fun k => ?_⟩
   rw [hF k, hps k]
   by_cases hk' : k ∈ l.take i
   ·rw [if_pos hk']
   ·rw [if_neg hk', if_neg (fun e => hk' (by rw [e];exact hin)), pos_zero.2 hk']
  ·have h0 := hz.2 hin
   (repeat' (first|((first|refine wx1 ?_|refine wx2 ?_ ?_<;>intro hp|refine s_end hk ?_)<;>(clear hk a;intro a hk))|((first|refine wx3 ?_;intro w b|refine wx4 ?_;intro w|refine wx5 ?_;intro w v);clear hk hS a;intro hS a hk)|refine wx0 ?_|fail))
   refine su hk (g_mapUpdate (k := x) hk hS ?_ (mT rfl) keyW);clear hk hS a;intro w hS a hk
   (repeat' (first|((first|refine wx1 ?_|refine wx2 ?_ ?_<;>intro hp|refine s_end hk ?_)<;>(clear hk a;intro a hk))|((first|refine wx3 ?_;intro w b|refine wx4 ?_;intro w|refine wx5 ?_;intro w v);clear hk hS a;intro hS a hk)|refine wx0 ?_|fail))
   refine ⟨hil, _, hk.sd, hS.sb, fun k => ?_⟩
   rw [getL_set, hps k]
   by_cases e : k = x
   ·subst e;rw [if_pos rfl, if_neg hin, if_pos rfl];rfl
   ·rw [if_neg e, hF k]
    by_cases hk' : k ∈ l.take i
    ·rw [if_pos hk']
    ·rw [if_neg hk', if_neg e, pos_zero.2 hk']
 ·have : i = l.length := by omega
  subst this
  rw [List.take_length] at hF
  (repeat' (first|((first|refine wx1 ?_|refine wx2 ?_ ?_<;>intro hp|refine s_end hk ?_)<;>(clear hk a;intro a hk))|((first|refine wx3 ?_;intro w b|refine wx4 ?_;intro w|refine wx5 ?_;intro w v);clear hk hS a;intro hS a hk)|refine wx0 ?_|fail))
  exact done1 hk (h := ⟨m, hF, hS⟩)
theorem once_any (l : List Int) (v : Value) (w0 : World) (hv : SlT l v w0) (hl : l.length ≤ 1000) :
  Calls Tryz.prog 45 #[v] w0 (Ret fun v w => St w0 [OwT 3 (onceI l) v] w) := by
 refine enter Tryz.func45 rfl Tryz.ntmps45 rfl (fun a hk => ?_);have hS := St.refl w0
 (repeat' (first|((first|refine wx1 ?_|refine wx2 ?_ ?_<;>intro hp|refine s_end hk ?_)<;>(clear hk a;intro a hk))|((first|refine wx3 ?_;intro w b|refine wx4 ?_;intro w|refine wx5 ?_;intro w v);clear hk hS a;intro hS a hk)|refine wx0 ?_|fail))
 refine sg hk (g_callO hk (hf := by kernel_rfl) (hc := places_any l v _ (hS.rdT hv) hl) (h := ?_));clear hk a;rintro mv w ⟨m, hm, hS1⟩ a hk;replace hS := hS.call hS1;clear hS1
 (repeat' (first|((first|refine wx1 ?_|refine wx2 ?_ ?_<;>intro hp|refine s_end hk ?_)<;>(clear hk a;intro a hk))|((first|refine wx3 ?_;intro w b|refine wx4 ?_;intro w|refine wx5 ?_;intro w v);clear hk hS a;intro hS a hk)|refine wx0 ?_|fail))
 replace hS := hS.nilT 3 Int
 replace hk := Kn.kp [3, 4, 9, 10, 11] hk
 refine wp_for l.length (fun i x => [(4, x), (11, .int .i64 (i : Int))]) (fun i x => [OwT 3 (onceN l i) x, mapH encW mv m]) (fun _ _ => True) (.slice none 0 0) hk skx hS.sb trivial ?_
 clear hk hS a
 rintro i vo a w hi hk hS -
 have hv1 := hS.rdT hv
 have hol := once_len l i
 by_cases hil : i < l.length
 ·obtain ⟨x, hx⟩ : ∃ x, l[i]? = some x := ⟨_, List.getElem?_eq_getElem hil⟩
  have hst := once_succ hx
  have hpf := pos_first hx
  (repeat' (first|((first|refine wx1 ?_|refine wx2 ?_ ?_<;>intro hp|refine s_end hk ?_)<;>(clear hk a;intro a hk))|((first|refine wx3 ?_;intro w b|refine wx4 ?_;intro w|refine wx5 ?_;intro w v);clear hk hS a;intro hS a hk)|refine wx0 ?_|fail))
  refine sg hk (g_lookup (k := x) hk (hS.rd (A := mapH encW mv m) atx) ?_ (mT rfl) keyW (oT rfl));clear hk a;intro a hk
  rw [hm x] at hk
  by_cases hin : x ∈ l.take i
  ·rw [if_pos hin, List.append_nil] at hst
   have hq : posI l x ≠ i + 1 := fun h => hpf.1 h hin
   rw [← hst] at hS
   (repeat' (first|((first|refine wx1 ?_|refine wx2 ?_ ?_<;>intro hp|refine s_end hk ?_)<;>(clear hk a;intro a hk))|((first|refine wx3 ?_;intro w b|refine wx4 ?_;intro w|refine wx5 ?_;intro w v);clear hk hS a;intro hS a hk)|refine wx0 ?_|fail))
   exact ⟨hil, _, hk.sd, hS.sb, trivial⟩
  ·rw [if_neg hin] at hst
   have hq : posI l x = i + 1 := hpf.2 hin
   (repeat' (first|((first|refine wx1 ?_|refine wx2 ?_ ?_<;>intro hp|refine s_end hk ?_)<;>(clear hk a;intro a hk))|((first|refine wx3 ?_;intro w b|refine wx4 ?_;intro w|refine wx5 ?_;intro w v);clear hk hS a;intro hS a hk)|refine wx0 ?_|fail))
   rw [← hst] at hS
   exact ⟨hil, _, hk.sd, hS.sb, trivial⟩
 ·have : i = l.length := by omega
  subst this
  (repeat' (first|((first|refine wx1 ?_|refine wx2 ?_ ?_<;>intro hp|refine s_end hk ?_)<;>(clear hk a;intro a hk))|((first|refine wx3 ?_;intro w b|refine wx4 ?_;intro w|refine wx5 ?_;intro w v);clear hk hS a;intro hS a hk)|refine wx0 ?_|fail))
  exact done1 hk (h := hS.sb)
end Go.Proofs.YtbpkddpkcnlmhaaGreat
namespace Go.Proofs.YtbpkddpkcnlmhaaGreat
open Go.RowKit
set_option maxRecDepth 100000
attribute [local irreducible] Go.Code.wpIn Go.wpListIn Go.Calls Gives Go.Exit.then Go.Exit.inBlock Done ObxE
set_option maxHeartbeats 1000000 in
theorem insW_any {B : Bs} {w : World} {L : List HP} {xs : List Int} {e : Int} {i : Nat} {v ve : Value} (hS : St B (OwT 3 xs v :: OwT 3 [e] ve :: L) w) (hi : i ≤ xs.length) (hl : xs.length ≤ 1000) :
  Calls Tryz.prog 40 #[v, .int .i64 (i : Int), ve] w (Ret fun v' w' => St B (OwT 3 (insF xs i e) v' :: L) w') := by
 have hx : SlT xs v w := OwT.rd (hS.rd (A := OwT 3 xs v) atx)
 have he : SlT [e] ve w := OwT.rd (hS.rd (A := OwT 3 [e] ve) atx)
 have h1l : ([e] : List Int).length = 1 := rfl
 by_cases hin : i = xs.length
 ·subst hin
  refine enter Tryz.func40 rfl Tryz.ntmps40 rfl (fun a hk => ?_)
  (repeat' (first|((first|refine wx1 ?_|refine wx2 ?_ ?_<;>intro hp|refine s_end hk ?_)<;>(clear hk a;intro a hk))|((first|refine wx3 ?_;intro w b|refine wx4 ?_;intro w|refine wx5 ?_;intro w v);clear hk hS a;intro hS a hk)|refine wx0 ?_|fail))
  refine sg hk (g_partF (i := xs.length) hk ?_ (ht := eT rfl) (hs := (by first | exact St.rdT hS (by assumption) | exact OwT.rd (hS.rd (A := OwT _ _ _) atx) | assumption)) (hE := zT rfl) (hi := by omega));clear hk a;intro vq hvq a hk
  (repeat' (first|((first|refine wx1 ?_|refine wx2 ?_ ?_<;>intro hp|refine s_end hk ?_)<;>(clear hk a;intro a hk))|((first|refine wx3 ?_;intro w b|refine wx4 ?_;intro w|refine wx5 ?_;intro w v);clear hk hS a;intro hS a hk)|refine wx0 ?_|fail))
  refine done1 hk (h := ?_)
  have e1 : insF xs xs.length e = xs ++ [e] := by simp [insF]
  rw [e1]
  exact hS
 ·obtain ⟨b, off, cap, rfl, _, _⟩ := hS.ownCells (E := 3) (xs := xs) At.here (by intro h;subst h;simp at hi hin;exact hin hi)
  obtain ⟨b', off', cap', rfl, _, _⟩ := hS.ownCells (E := 3) (xs := [e]) (At.there At.here) (by simp)
  obtain ⟨vs, hS1, hvl, hnc, hcm, hcl, hvs⟩ := hS.ownPts At.here
  obtain ⟨vs', hS2, hvl', hnc', hcm', hcl', hvs'⟩ := hS1.ownPts (At.there At.here)
  replace hS := hS2
  have hvn : vs ≠ [] := by
   intro h
   rw [h, List.length_nil] at hvl
   have := Nat.le_mul_of_pos_right cap (show 0 < Enc.k Int + 1 by omega)
   omega
  clear hS1 hS2
  by_cases hc : xs.length + 1 ≤ cap
  ·refine enter Tryz.func40 rfl Tryz.ntmps40 rfl (fun a hk => ?_)
   (repeat' (first|((first|refine wx1 ?_|refine wx2 ?_ ?_<;>intro hp|refine s_end hk ?_)<;>(clear hk a;intro a hk))|((first|refine wx3 ?_;intro w b|refine wx4 ?_;intro w|refine wx5 ?_;intro w v);clear hk hS a;intro hS a hk)|refine wx0 ?_|fail))
   refine sg hk (g_partF (i := i) hk ?_ (ht := eT rfl) (hs := (by first | exact St.rdT hS (by assumption) | exact OwT.rd (hS.rd (A := OwT _ _ _) atx) | assumption)) (hE := zT rfl) (hi := by omega));clear hk a;intro vq hvq a hk
   (repeat' (first|((first|refine wx1 ?_|refine wx2 ?_ ?_<;>intro hp|refine s_end hk ?_)<;>(clear hk a;intro a hk))|((first|refine wx3 ?_;intro w b|refine wx4 ?_;intro w|refine wx5 ?_;intro w v);clear hk hS a;intro hS a hk)|refine wx0 ?_|fail))
   refine sg hk (g_capC hk ?_ (ht := eT rfl));clear hk a;intro a hk
   (repeat' (first|((first|refine wx1 ?_|refine wx2 ?_ ?_<;>intro hp|refine s_end hk ?_)<;>(clear hk a;intro a hk))|((first|refine wx3 ?_;intro w b|refine wx4 ?_;intro w|refine wx5 ?_;intro w v);clear hk hS a;intro hS a hk)|refine wx0 ?_|fail))
   refine sg hk (g_slTc (xs.length + 1) (k := Enc.k Int) hk ?_ (ht := eT rfl) (hE := zT rfl) (hp := by omega) (hj := by omega));clear hk a;intro a hk
   (repeat' (first|((first|refine wx1 ?_|refine wx2 ?_ ?_<;>intro hp|refine s_end hk ?_)<;>(clear hk a;intro a hk))|((first|refine wx3 ?_;intro w b|refine wx4 ?_;intro w|refine wx5 ?_;intro w v);clear hk hS a;intro hS a hk)|refine wx0 ?_|fail))
   refine sg hk (g_slFc (i + 1) (k := Enc.k Int) hk ?_ (ht := eT rfl) (hE := zT rfl) (hp := by omega) (him := by omega) (hc := by omega));clear hk a;intro a hk
   (repeat' (first|((first|refine wx1 ?_|refine wx2 ?_ ?_<;>intro hp|refine s_end hk ?_)<;>(clear hk a;intro a hk))|((first|refine wx3 ?_;intro w b|refine wx4 ?_;intro w|refine wx5 ?_;intro w v);clear hk hS a;intro hS a hk)|refine wx0 ?_|fail))
   refine sg hk (g_ovl hk hS ?_ (hf := Tryz.func63) (hname := by kernel_rfl) (hb := by kernel_rfl) (hn := by kernel_rfl) (he := by kernel_rfl) (ht := eT rfl) (hE := zT rfl) (tS := 22) (tR := 4) (hne := hvn));clear hk a;intro a hk
   (repeat' (first|((first|refine wx1 ?_|refine wx2 ?_ ?_<;>intro hp|refine s_end hk ?_)<;>(clear hk a;intro a hk))|((first|refine wx3 ?_;intro w b|refine wx4 ?_;intro w|refine wx5 ?_;intro w v);clear hk hS a;intro hS a hk)|refine wx0 ?_|fail))
   replace hS := hS.sub (.cons (.there .here) (.cons .here .refl))
   refine wp_drawnU1 9 mixed (by kernel_rfl) hk hS ?_;clear hk hS a
   (repeat' (first|(show ObxE _ _ _ _ _ _ _ _ _ (_::_) _ _ _;first|refine ox1 ?_|refine ox2 ?_ ?_<;>intro hp)|fail))
   refine' obe_val (fun us a w hk hd hS => ?_) ?_;rotate_left;focus (have hk := Kn.vw hk vwx;exact g_slFc (i + 1) (k := Enc.k Int) hk (same _ _) (ht := eT rfl) (hE := zT rfl) (hp := by omega) (him := by omega) (hc := by omega))
   (repeat' (first|(show ObxE _ _ _ _ _ _ _ _ _ (_::_) _ _ _;first|refine ox1 ?_|refine ox2 ?_ ?_<;>intro hp)|fail))
   refine' obe_val (fun us a w hk hd hS => ?_) ?_;rotate_left;focus (have hk := Kn.vw hk vwx;exact g_slFc i (k := Enc.k Int) hk (same _ _) (ht := eT rfl) (hE := zT rfl) (hp := by omega) (him := by omega) (hc := by omega))
   (repeat' (first|(show ObxE _ _ _ _ _ _ _ _ _ (_::_) _ _ _;first|refine ox1 ?_|refine ox2 ?_ ?_<;>intro hp)|fail))
   refine' obe_upd (pts b vs 3) (V := fun _ => pts b (splice vs (off + (i + 1) * (Enc.k Int + 1)) (enc (xs.drop i))) 3) (fun us a w X hk hd hS hL => ?_) ?_
   ·have hk := Kn.vw hk vwx
    exact g_copyC (E := 3) (k := Enc.k Int) hk hS (fun w' hS' => hS') (q := xs.length - i) (ht := eT rfl) (hE := zT rfl) (hq := by simp only [Nat.min_def];split <;> omega) (hl := by rw [enc_len, List.length_drop]) (hsrc := Cells.dropT i (pts.block (hS.rd At.here)) hvs) (h1 := enc_one _)
     (hfit := by rw [enc_len, List.length_drop, Nat.add_assoc, ← Nat.add_mul];exact Nat.le_trans (Nat.add_le_add_left (Nat.mul_le_mul_right _ (by omega)) _) hvl)
   (repeat' (first|(show ObxE _ _ _ _ _ _ _ _ _ (_::_) _ _ _;first|refine ox1 ?_|refine ox2 ?_ ?_<;>intro hp)|fail))
   refine obe_nil ⟨rfl, ?_⟩;intro us a w hk hS
   simp only [resE] at hS
   (repeat' (first|((first|refine wx1 ?_|refine wx2 ?_ ?_<;>intro hp|refine s_end hk ?_)<;>(clear hk a;intro a hk))|((first|refine wx3 ?_;intro w b|refine wx4 ?_;intro w|refine wx5 ?_;intro w v);clear hk hS a;intro hS a hk)|refine wx0 ?_|fail))
   refine sg hk (g_slFc i (k := Enc.k Int) hk ?_ (ht := eT rfl) (hE := zT rfl) (hp := by omega) (him := by omega) (hc := by omega));clear hk a;intro a hk
   (repeat' (first|((first|refine wx1 ?_|refine wx2 ?_ ?_<;>intro hp|refine s_end hk ?_)<;>(clear hk a;intro a hk))|((first|refine wx3 ?_;intro w b|refine wx4 ?_;intro w|refine wx5 ?_;intro w v);clear hk hS a;intro hS a hk)|refine wx0 ?_|fail))
   refine sg hk (g_copyC (E := 3) (k := Enc.k Int) hk hS ?_ (q := 1) (ht := eT rfl) (hE := zT rfl) (hq := by simp only [Nat.min_def];split <;> omega) (hl := by rw [Enc.len, Nat.one_mul]) (hsrc := ?_) (h1 := Enc.one e) (hfit := ?_))
   rotate_left
   ·have := Cells.takeT (xs := [e]) 1 (pts.block (hS.rd (A := pts b' vs' 3) atx)) hvs'
    rwa [List.take_of_length_le (by rw [h1l];exact Nat.le_refl 1), enc_single] at this
   ·rw [splice_len, Enc.len, Nat.add_assoc, ← Nat.succ_mul]
    exact Nat.le_trans (Nat.add_le_add_left (Nat.mul_le_mul_right _ (by omega)) _) hvl
   clear hk hS a
   intro w hS a hk
   (repeat' (first|((first|refine wx1 ?_|refine wx2 ?_ ?_<;>intro hp|refine s_end hk ?_)<;>(clear hk a;intro a hk))|((first|refine wx3 ?_;intro w b|refine wx4 ?_;intro w|refine wx5 ?_;intro w v);clear hk hS a;intro hS a hk)|refine wx0 ?_|fail))
   obtain ⟨hl0, hc0⟩ := ins_cells (xs := xs) (i := i) (off := off) (e := e) (vs := vs) (by omega) (Nat.le_trans (Nat.add_le_add_left (Nat.mul_le_mul_right _ hc) _) hvl) (fun j u hj => by
    rw [← enc_take, List.getElem?_take] at hj
    split at hj
    ·exact hvs j u hj
    ·cases hj) (.inl rfl)
   have hF := hS.toOwn (ys := insF xs i e) At.here (by rw [insF_len hi];exact hc) hcm (by rw [hl0];exact hvl) hc0
   rw [insF_len hi] at hF
   exact done1 hk (h := hF.sub (.cons .here Sub.cons_drop))
  ·refine enter Tryz.func40 rfl Tryz.ntmps40 rfl (fun a hk => ?_)
   (repeat' (first|((first|refine wx1 ?_|refine wx2 ?_ ?_<;>intro hp|refine s_end hk ?_)<;>(clear hk a;intro a hk))|((first|refine wx3 ?_;intro w b|refine wx4 ?_;intro w|refine wx5 ?_;intro w v);clear hk hS a;intro hS a hk)|refine wx0 ?_|fail))
   refine sg hk (g_partF (i := i) hk ?_ (ht := eT rfl) (hs := (by first | exact St.rdT hS (by assumption) | exact OwT.rd (hS.rd (A := OwT _ _ _) atx) | assumption)) (hE := zT rfl) (hi := by omega));clear hk a;intro vq hvq a hk
   (repeat' (first|((first|refine wx1 ?_|refine wx2 ?_ ?_<;>intro hp|refine s_end hk ?_)<;>(clear hk a;intro a hk))|((first|refine wx3 ?_;intro w b|refine wx4 ?_;intro w|refine wx5 ?_;intro w v);clear hk hS a;intro hS a hk)|refine wx0 ?_|fail))
   refine sg hk (g_capC hk ?_ (ht := eT rfl));clear hk a;intro a hk
   (repeat' (first|((first|refine wx1 ?_|refine wx2 ?_ ?_<;>intro hp|refine s_end hk ?_)<;>(clear hk a;intro a hk))|((first|refine wx3 ?_;intro w b|refine wx4 ?_;intro w|refine wx5 ?_;intro w v);clear hk hS a;intro hS a hk)|refine wx0 ?_|fail))
   refine sg hk (g_slTc i (k := Enc.k Int) hk ?_ (ht := eT rfl) (hE := zT rfl) (hp := by omega) (hj := by omega));clear hk a;intro a hk
   (repeat' (first|((first|refine wx1 ?_|refine wx2 ?_ ?_<;>intro hp|refine s_end hk ?_)<;>(clear hk a;intro a hk))|((first|refine wx3 ?_;intro w b|refine wx4 ?_;intro w|refine wx5 ?_;intro w v);clear hk hS a;intro hS a hk)|refine wx0 ?_|fail))
   refine sg hk (g_appZ (cs := enc (xs.take i)) (i := i) (q := xs.length + 1 - i) (k := Enc.k Int) hk hS ?_ (hp := by omega) (ht := eT rfl) (htx := iT rfl) (hE := zT rfl) (hz := oT rfl) (hzs := rfl) (hz1 := by decide) (hby := bT rfl) (h0 := by omega) (hc := by omega) (hl := by rw [enc_len, List.length_take, Nat.min_eq_left hi]) (hcs := Cells.takeT i (pts.block (hS.rd (A := pts b vs 3) atx)) hvs) (h1 := enc_one _) (hbytes := by omega) (h63 := by simp only [maxLen];omega))
   clear hk hS a
   intro w b2 c2 zs hg1 hg2 hg3 hg4 hg5 hS a hk
   rw [show i + (xs.length + 1 - i) = xs.length + 1 by omega] at hk hg1
   (repeat' (first|((first|refine wx1 ?_|refine wx2 ?_ ?_<;>intro hp|refine s_end hk ?_)<;>(clear hk a;intro a hk))|((first|refine wx3 ?_;intro w b|refine wx4 ?_;intro w|refine wx5 ?_;intro w v);clear hk hS a;intro hS a hk)|refine wx0 ?_|fail))
   refine sg hk (g_slFc i (k := Enc.k Int) hk ?_ (ht := eT rfl) (hE := zT rfl) (hp := by omega) (him := by omega) (hc := by omega));clear hk a;intro a hk
   (repeat' (first|((first|refine wx1 ?_|refine wx2 ?_ ?_<;>intro hp|refine s_end hk ?_)<;>(clear hk a;intro a hk))|((first|refine wx3 ?_;intro w b|refine wx4 ?_;intro w|refine wx5 ?_;intro w v);clear hk hS a;intro hS a hk)|refine wx0 ?_|fail))
   refine sg hk (g_copyC (E := 3) (k := Enc.k Int) hk hS ?_ (q := 1) (ht := eT rfl) (hE := zT rfl) (hq := by simp only [Nat.min_def];split <;> omega) (hl := by rw [Enc.len, Nat.one_mul]) (hsrc := ?_) (h1 := Enc.one e) (hfit := ?_))
   rotate_left
   ·have := Cells.takeT (xs := [e]) 1 (pts.block (hS.rd (A := pts b' vs' 3) atx)) hvs'
    rwa [List.take_of_length_le (by rw [h1l];exact Nat.le_refl 1), enc_single] at this
   ·rw [Enc.len, Nat.add_assoc, ← Nat.succ_mul, Nat.zero_add, hg3]
    exact Nat.mul_le_mul_right _ (by omega)
   clear hk hS a
   intro w hS a hk
   (repeat' (first|((first|refine wx1 ?_|refine wx2 ?_ ?_<;>intro hp|refine s_end hk ?_)<;>(clear hk a;intro a hk))|((first|refine wx3 ?_;intro w b|refine wx4 ?_;intro w|refine wx5 ?_;intro w v);clear hk hS a;intro hS a hk)|refine wx0 ?_|fail))
   refine wp_drawnU1 9 mixed (by kernel_rfl) hk hS ?_;clear hk hS a
   (repeat' (first|(show ObxE _ _ _ _ _ _ _ _ _ (_::_) _ _ _;first|refine ox1 ?_|refine ox2 ?_ ?_<;>intro hp)|fail))
   refine' obe_val (fun us a w hk hd hS => ?_) ?_;rotate_left;focus (have hk := Kn.vw hk vwx;exact g_slFc (i + 1) (k := Enc.k Int) hk (same _ _) (ht := eT rfl) (hE := zT rfl) (hp := by omega) (him := by omega) (hc := by omega))
   (repeat' (first|(show ObxE _ _ _ _ _ _ _ _ _ (_::_) _ _ _;first|refine ox1 ?_|refine ox2 ?_ ?_<;>intro hp)|fail))
   refine' obe_val (fun us a w hk hd hS => ?_) ?_;rotate_left;focus (have hk := Kn.vw hk vwx;exact g_slFc i (k := Enc.k Int) hk (same _ _) (ht := eT rfl) (hE := zT rfl) (hp := by omega) (him := by omega) (hc := by omega))
   (repeat' (first|(show ObxE _ _ _ _ _ _ _ _ _ (_::_) _ _ _;first|refine ox1 ?_|refine ox2 ?_ ?_<;>intro hp)|fail))
   refine' obe_upd (pts b2 (splice zs (0 + i * (Enc.k Int + 1)) (Enc.f e)) 3) (V := fun _ => pts b2 (splice (splice zs (0 + i * (Enc.k Int + 1)) (Enc.f e)) (0 + (i + 1) * (Enc.k Int + 1)) (enc (xs.drop i))) 3) (fun us a w X hk hd hS hL => ?_) ?_
   ·have hk := Kn.vw hk vwx
    exact g_copyC (E := 3) (k := Enc.k Int) hk hS (fun w' hS' => hS') (q := xs.length - i) (ht := eT rfl) (hE := zT rfl) (hq := by simp only [Nat.min_def];split <;> omega) (hl := by rw [enc_len, List.length_drop]) (hsrc := Cells.dropT i (pts.block (hL.rd (A := pts b vs 3) atx)) hvs) (h1 := enc_one _)
     (hfit := by rw [splice_len, enc_len, List.length_drop, Nat.add_assoc, ← Nat.add_mul, Nat.zero_add, hg3];exact Nat.mul_le_mul_right _ (by omega))
   (repeat' (first|(show ObxE _ _ _ _ _ _ _ _ _ (_::_) _ _ _;first|refine ox1 ?_|refine ox2 ?_ ?_<;>intro hp)|fail))
   refine obe_nil ⟨rfl, ?_⟩;intro us a w hk hS
   simp only [resE] at hS
   (repeat' (first|((first|refine wx1 ?_|refine wx2 ?_ ?_<;>intro hp|refine s_end hk ?_)<;>(clear hk a;intro a hk))|((first|refine wx3 ?_;intro w b|refine wx4 ?_;intro w|refine wx5 ?_;intro w v);clear hk hS a;intro hS a hk)|refine wx0 ?_|fail))
   obtain ⟨hl0, hc0⟩ := ins_cells (xs := xs) (i := i) (off := 0) (e := e) (vs := zs) (by omega) (by rw [Nat.zero_add, hg3];exact Nat.mul_le_mul_right _ hg1) (fun j u hj => by rw [Nat.zero_add];exact hg4 j u hj) (.inr rfl)
   have hF := hS.toOwn (ys := insF xs i e) At.here (by rw [insF_len hi];exact hg1) hg2 (by rw [hl0, Nat.zero_add, hg3];exact Nat.le_refl _) hc0
   rw [insF_len hi] at hF
   exact done1 hk (h := hF.sub (.cons .here (Sub.under Sub.cons_drop)))
set_option maxHeartbeats 1000000 in
theorem idxW_any (p : Int → Bool) (s : List Int) (f : FuncId) (cap : List Value) (v : Value) {B : Bs} {L : List HP} (w : World) (hS : St B L w) (hv : SlT s v w) (hl : s.length ≤ 1000) (hf : callable Tryz.prog f = true)
  (hc : ∀ (x : Int) (w' : World), St B L w' → Calls Tryz.prog f (.int .i64 x :: cap).toArray w' (Ret fun v w'' => v = .bool (p x) ∧ St w' [] w'')) :
  Calls Tryz.prog 93 #[v, .func (.func f) #[] cap.toArray] w (Ret fun v w' => ∃ r : Int, v = .int .i64 r ∧ (r = -1 ∧ (∀ i (h : i < s.length), p s[i] = false) ∨ ∃ (k : Nat) (h : k < s.length), r = k ∧ (∀ i (h : i < s.length), i < k → p s[i] = false) ∧ p s[k] = true) ∧ St w [] w') := by
 have hS0 := hS
 clear hS
 refine enter Tryz.func93 rfl Tryz.ntmps93 rfl (fun a hk => ?_)
 have hS := St.refl w
 have hw0 : w = w := rfl
 (repeat' (first|((first|refine wx1 ?_|refine wx2 ?_ ?_<;>intro hp|refine s_end hk ?_)<;>(clear hk a;intro a hk))|((first|refine wx3 ?_;intro w b|refine wx4 ?_;intro w|refine wx5 ?_;intro w v);clear hk hS a;intro hS a hk)|refine wx0 ?_|fail))
 replace hk := Kn.kp [0, 1, 7, 8] hk
 refine wp_for s.length (fun i _ => [(8, .int .i64 (i : Int))]) (fun _ _ => []) (fun i _ => ∀ j (h : j < s.length), j < i → p s[j] = false) () hk skx hS (fun j h hj => by omega) ?_
 clear hk hS a
 rintro i - a w1 hi hk hS hF
 by_cases hil : i < s.length
 ·(repeat' (first|((first|refine wx1 ?_|refine wx2 ?_ ?_<;>intro hp|refine s_end hk ?_)<;>(clear hk a;intro a hk))|((first|refine wx3 ?_;intro w b|refine wx4 ?_;intro w|refine wx5 ?_;intro w v);clear hk hS a;intro hS a hk)|refine wx0 ?_|fail))
  refine sg hk (g_callvO (first := []) (cap := cap) hk (hf := hf) (hc := hc _ _ (hS0.call hS)) (h := ?_));clear hk a;rintro _ w2 ⟨rfl, hS1⟩ a hk;replace hS := hS.call0 hS1;clear hS1
  cases hp : p s[i] with
  | true =>
   rw [hp] at hk
   (repeat' (first|((first|refine wx1 ?_|refine wx2 ?_ ?_<;>intro hp|refine s_end hk ?_)<;>(clear hk a;intro a hk))|((first|refine wx3 ?_;intro w b|refine wx4 ?_;intro w|refine wx5 ?_;intro w v);clear hk hS a;intro hS a hk)|refine wx0 ?_|fail))
   exact done1 hk (h := ⟨i, rfl, .inr ⟨i, hil, rfl, hF, hp⟩, hS.nil⟩)
  | false =>
   rw [hp] at hk
   (repeat' (first|((first|refine wx1 ?_|refine wx2 ?_ ?_<;>intro hp|refine s_end hk ?_)<;>(clear hk a;intro a hk))|((first|refine wx3 ?_;intro w b|refine wx4 ?_;intro w|refine wx5 ?_;intro w v);clear hk hS a;intro hS a hk)|refine wx0 ?_|fail))
   refine ⟨hil, (), hk.sd, hS, fun j h hj => ?_⟩
   by_cases e : j = i
   ·subst e;exact hp
   ·exact hF j h (by omega)
 ·(repeat' (first|((first|refine wx1 ?_|refine wx2 ?_ ?_<;>intro hp|refine s_end hk ?_)<;>(clear hk a;intro a hk))|((first|refine wx3 ?_;intro w b|refine wx4 ?_;intro w|refine wx5 ?_;intro w v);clear hk hS a;intro hS a hk)|refine wx0 ?_|fail))
  exact done1 hk (h := ⟨-1, rfl, .inl ⟨rfl, fun i h => hF i h (by omega)⟩, hS.nil⟩)
set_option maxHeartbeats 2000000 in
theorem delW_any (p : Int → Bool) {s : List Int} (f : FuncId) (cap : List Value) {v : Value} {B : Bs} {L : List HP} {w : World} (hS : St B (OwT 3 s v :: L) w) (hl : s.length ≤ 1000) (hf : callable Tryz.prog f = true)
  (hc : ∀ (x : Int) (w' : World), St B L w' → Calls Tryz.prog f (.int .i64 x :: cap).toArray w' (Ret fun v w'' => v = .bool (p x) ∧ St w' [] w'')) :
  Calls Tryz.prog 73 #[v, .func (.func f) #[] cap.toArray] w (Ret fun v' w' => St B (OwT 3 (s.filter (fun x => !p x)) v' :: L) w') := by
 refine enter Tryz.func73 rfl Tryz.ntmps73 rfl (fun a hk => ?_)
 (repeat' (first|((first|refine wx1 ?_|refine wx2 ?_ ?_<;>intro hp|refine s_end hk ?_)<;>(clear hk a;intro a hk))|((first|refine wx3 ?_;intro w b|refine wx4 ?_;intro w|refine wx5 ?_;intro w v);clear hk hS a;intro hS a hk)|refine wx0 ?_|fail))
 refine sg hk (g_callO hk (hf := by kernel_rfl) (hc := idxW_any p s f cap v _ (hS.sub Sub.cons_drop) (by first | exact St.rdT hS (by assumption) | exact OwT.rd (hS.rd (A := OwT _ _ _) atx) | assumption) hl hf hc) (h := ?_));clear hk a;rintro vr w ⟨r, rfl, hr, hS1⟩ a hk;replace hS := hS.call hS1;clear hS1
 rcases hr with ⟨rfl, hn⟩ | ⟨k, hk0, rfl, hn, hp⟩
 ·(repeat' (first|((first|refine wx1 ?_|refine wx2 ?_ ?_<;>intro hp|refine s_end hk ?_)<;>(clear hk a;intro a hk))|((first|refine wx3 ?_;intro w b|refine wx4 ?_;intro w|refine wx5 ?_;intro w v);clear hk hS a;intro hS a hk)|refine wx0 ?_|fail))
  rw [filter_none p hn]
  exact done1 hk (h := hS)
 ·(repeat' (first|((first|refine wx1 ?_|refine wx2 ?_ ?_<;>intro hp|refine s_end hk ?_)<;>(clear hk a;intro a hk))|((first|refine wx3 ?_;intro w b|refine wx4 ?_;intro w|refine wx5 ?_;intro w v);clear hk hS a;intro hS a hk)|refine wx0 ?_|fail))
  replace hk := Kn.kp [0, 1, 5, 6] hk
  refine wp_while (fun x : Nat × Nat × List Int => [(5, .int .i64 (x.1 : Int)), (6, .int .i64 (x.2.1 : Int))]) (fun x => OwT 3 x.2.2 v :: L) (fun x => Sieve p s x.2.2 x.1 x.2.1 ∧ x.2.1 ≤ s.length) (fun x => s.length - x.2.1) (k, k + 1, s) hk skx hS ⟨Sieve.start p hk0 hn hp, hk0⟩ ?_
  clear hk hS a hn hp
  rintro ⟨i, j, ys⟩ a w hk hS ⟨hF, hj⟩
  simp only at hk hS hF hj
  have hyl := hF.len
  have hij := hF.le
  by_cases hjl : j < s.length
  ·have hget := hF.get p hjl
   (repeat' (first|((first|refine wx1 ?_|refine wx2 ?_ ?_<;>intro hp|refine s_end hk ?_)<;>(clear hk a;intro a hk))|((first|refine wx3 ?_;intro w b|refine wx4 ?_;intro w|refine wx5 ?_;intro w v);clear hk hS a;intro hS a hk)|refine wx0 ?_|fail))
   refine sg hk (g_callvO (first := []) (cap := cap) hk (hf := hf) (hc := hc s[j] _ (hS.sub Sub.cons_drop)) (h := ?_));clear hk a;rintro _ w2 ⟨rfl, hS1⟩ a hk;replace hS := hS.call0 hS1;clear hS1
   cases hp : p s[j] with
   | true =>
    rw [hp] at hk
    (repeat' (first|((first|refine wx1 ?_|refine wx2 ?_ ?_<;>intro hp|refine s_end hk ?_)<;>(clear hk a;intro a hk))|((first|refine wx3 ?_;intro w b|refine wx4 ?_;intro w|refine wx5 ?_;intro w v);clear hk hS a;intro hS a hk)|refine wx0 ?_|fail))
    exact ⟨(i, j + 1, ys), by simp only;omega, hk.subD (by (repeat (first | exact trivial | refine ⟨rfl, ?_⟩ | refine ⟨trivial, ?_⟩));fail_if_success focus skip), hS.sb, hF.drop_ p hjl hp, hjl⟩
   | false =>
    rw [hp] at hk
    (repeat' (first|((first|refine wx1 ?_|refine wx2 ?_ ?_<;>intro hp|refine s_end hk ?_)<;>(clear hk a;intro a hk))|((first|refine wx3 ?_;intro w b|refine wx4 ?_;intro w|refine wx5 ?_;intro w v);clear hk hS a;intro hS a hk)|refine wx0 ?_|fail))
    exact ⟨(i + 1, j + 1, ys.set i s[j]), by simp only;omega, hk.subD (by (repeat (first | exact trivial | refine ⟨rfl, ?_⟩ | refine ⟨trivial, ?_⟩));fail_if_success focus skip), hS.sb, hF.keep p hjl hp, hjl⟩
  ·have hje : j = s.length := by omega
   subst hje
   have hhd := hF.head
   rw [List.take_length] at hhd
   (repeat' (first|((first|refine wx1 ?_|refine wx2 ?_ ?_<;>intro hp|refine s_end hk ?_)<;>(clear hk a;intro a hk))|((first|refine wx3 ?_;intro w b|refine wx4 ?_;intro w|refine wx5 ?_;intro w v);clear hk hS a;intro hS a hk)|refine wx0 ?_|fail))
   obtain ⟨b, off, c, rfl, _, _⟩ := hS.ownCells (E := 3) (xs := ys) At.here (by intro h;subst h;simp at hyl;omega)
   obtain ⟨vs, hS1, hvl, hnc, hcm, hcl, hvs⟩ := hS.ownPts At.here
   replace hS := hS1
   clear hS1
   have e1 : ys.length * (Enc.k Int + 1) = i * (Enc.k Int + 1) + (ys.length - i) * (Enc.k Int + 1) := by rw [← Nat.add_mul];congr 1;omega
   have e2 : ys.length * (Enc.k Int + 1) ≤ c * (Enc.k Int + 1) := Nat.mul_le_mul_right _ hnc
   refine sg hk (g_slFc i (k := Enc.k Int) hk ?_ (ht := eT rfl) (hE := zT rfl) (hp := rfl) (him := by omega) (hc := by omega));clear hk a;intro a hk
   refine su hk (g_clear (k := Enc.k Int) hk hS ?_ (ht := eT rfl) (hz := oT rfl) (hzs := rfl) (hz1 := by decide) (hfit := by omega))
   clear hk hS a
   intro w zs hzl hS a hk
   (repeat' (first|((first|refine wx1 ?_|refine wx2 ?_ ?_<;>intro hp|refine s_end hk ?_)<;>(clear hk a;intro a hk))|((first|refine wx3 ?_;intro w b|refine wx4 ?_;intro w|refine wx5 ?_;intro w v);clear hk hS a;intro hS a hk)|refine wx0 ?_|fail))
   refine sg hk (g_slTc i (k := Enc.k Int) hk ?_ (ht := eT rfl) (hE := zT rfl) (hp := rfl) (hj := by omega));clear hk a;intro a hk
   (repeat' (first|((first|refine wx1 ?_|refine wx2 ?_ ?_<;>intro hp|refine s_end hk ?_)<;>(clear hk a;intro a hk))|((first|refine wx3 ?_;intro w b|refine wx4 ?_;intro w|refine wx5 ?_;intro w v);clear hk hS a;intro hS a hk)|refine wx0 ?_|fail))
   have hF2 := hS.toTake (ys := ys) At.here (by omega) hnc hcm hvl hzl hvs
   rw [hhd] at hF2
   exact done1 hk (h := hF2)
end Go.Proofs.YtbpkddpkcnlmhaaGreat
namespace Go.Proofs.YtbpkddpkcnlmhaaGreat
open Go.RowKit
set_option maxRecDepth 100000
attribute [local irreducible] Go.Code.wpIn Go.wpListIn Go.Calls Gives Go.Exit.then Go.Exit.inBlock Done ObxE
abbrev StepW := Int × Int × Int
def woF (l : List Int) (id : Int) : List Int := l.filter (fun x => !decide (x = id))
def movesF (l : List StepW) : Nat := l.countP (fun s => decide (s.1 = 3))
end Go.Proofs.YtbpkddpkcnlmhaaGreat
namespace Go.Proofs.YtbpkddpkcnlmhaaGreat
open Go.RowKit
set_option maxRecDepth 100000
attribute [local irreducible] Go.Code.wpIn Go.wpListIn Go.Calls Gives Go.Exit.then Go.Exit.inBlock Done ObxE
theorem index_any (l : List Int) (id : Int) (v : Value) (w0 : World) (hv : SlT l v w0) (hl : l.length ≤ 100000) :
  Calls Tryz.prog 50 #[v, .int .i64 id] w0 (Ret fun v w => v = .int .i64 (idxI l id) ∧ St w0 [] w) := by
 refine enter Tryz.func50 rfl Tryz.ntmps50 rfl (fun a hk => ?_);have hS := St.refl w0
 (repeat' (first|((first|refine wx1 ?_|refine wx2 ?_ ?_<;>intro hp|refine s_end hk ?_)<;>(clear hk a;intro a hk))|((first|refine wx3 ?_;intro w b|refine wx4 ?_;intro w|refine wx5 ?_;intro w v);clear hk hS a;intro hS a hk)|refine wx0 ?_|fail))
 replace hk := Kn.kp [0, 1, 7, 8] hk
 refine wp_for l.length (fun i _ => [(8, .int .i64 (i : Int))]) (fun _ _ => []) (fun i _ => id ∉ l.take i) () hk skx hS.sb (by simp) ?_
 clear hk hS a
 rintro i - a w hi hk hS hF
 have hv1 := hS.rdT hv
 by_cases hil : i < l.length
 ·obtain ⟨x, hx⟩ : ∃ x, l[i]? = some x := ⟨_, List.getElem?_eq_getElem hil⟩
  by_cases e : id = x
  ·have hp := (pos_first hx).2 (by rw [← e];exact hF)
   have hx' : idxI l id = (i : Int) := by rw [idx_pos, e, hp];omega
   (repeat' (first|((first|refine wx1 ?_|refine wx2 ?_ ?_<;>intro hp|refine s_end hk ?_)<;>(clear hk a;intro a hk))|((first|refine wx3 ?_;intro w b|refine wx4 ?_;intro w|refine wx5 ?_;intro w v);clear hk hS a;intro hS a hk)|refine wx0 ?_|fail))
   exact done1 hk (h := ⟨by rw [hx'], hS.nil⟩)
  ·(repeat' (first|((first|refine wx1 ?_|refine wx2 ?_ ?_<;>intro hp|refine s_end hk ?_)<;>(clear hk a;intro a hk))|((first|refine wx3 ?_;intro w b|refine wx4 ?_;intro w|refine wx5 ?_;intro w v);clear hk hS a;intro hS a hk)|refine wx0 ?_|fail))
   exact ⟨hil, (), hk.sd, hS.sb, by rw [take_snocW hx, List.mem_append, List.mem_singleton];rintro (h | h);exact hF h;exact e h⟩
 ·have : i = l.length := by omega
  subst this
  rw [List.take_length] at hF
  have hx' : idxI l id = -1 := by unfold idxI;rw [if_neg hF]
  (repeat' (first|((first|refine wx1 ?_|refine wx2 ?_ ?_<;>intro hp|refine s_end hk ?_)<;>(clear hk a;intro a hk))|((first|refine wx3 ?_;intro w b|refine wx4 ?_;intro w|refine wx5 ?_;intro w v);clear hk hS a;intro hS a hk)|refine wx0 ?_|fail))
  exact done1 hk (h := ⟨by rw [hx'], hS.nil⟩)
theorem put_any {B : Bs} {w : World} {L : List HP} {l : List Int} {i : Nat} (id : Int) {vl : Value} (hS : St B (OwT 3 l vl :: L) w) (hi : i ≤ l.length) (hl : l.length ≤ 1000) :
  Calls Tryz.prog 51 #[vl, .int .i64 (i : Int), .int .i64 id] w (Ret fun v' w' => St B (OwT 3 (insF l i id) v' :: L) w') := by
 refine enter Tryz.func51 rfl Tryz.ntmps51 rfl (fun a hk => ?_)
 (repeat' (first|((first|refine wx1 ?_|refine wx2 ?_ ?_<;>intro hp|refine s_end hk ?_)<;>(clear hk a;intro a hk))|((first|refine wx3 ?_;intro w b|refine wx4 ?_;intro w|refine wx5 ?_;intro w v);clear hk hS a;intro hS a hk)|refine wx0 ?_|fail))
 refine sg hk (g_callO hk (hf := by kernel_rfl) (hc := insW_any (xs := l) (e := id) (v := vl) (ve := v) (hS.sub (.cons (.there .here) (.cons .here .refl))) hi hl) (h := ?_));clear hk hS a;intro vr w hS a hk
 (repeat' (first|((first|refine wx1 ?_|refine wx2 ?_ ?_<;>intro hp|refine s_end hk ?_)<;>(clear hk a;intro a hk))|((first|refine wx3 ?_;intro w b|refine wx4 ?_;intro w|refine wx5 ?_;intro w v);clear hk hS a;intro hS a hk)|refine wx0 ?_|fail))
 exact done1 hk (h := hS)
theorem out1_any (id x : Int) (b : Nat) (w0 : World) (hb : (pts b [.int .i64 id] 3).rd w0) : Calls Tryz.prog 74 #[.int .i64 x, .pointer (some ⟨b, 0, none⟩)] w0 (Ret fun v w' => v = .bool (decide (x = id)) ∧ St w0 [] w') := by
 refine enter Tryz.func74 rfl Tryz.ntmps74 rfl (fun a hk => ?_);have hS := St.refl w0
 (repeat' (first|((first|refine wx1 ?_|refine wx2 ?_ ?_<;>intro hp|refine s_end hk ?_)<;>(clear hk a;intro a hk))|((first|refine wx3 ?_;intro w b|refine wx4 ?_;intro w|refine wx5 ?_;intro w v);clear hk hS a;intro hS a hk)|refine wx0 ?_|fail))
 ·exact done1 hk (h := ⟨by rw [decide_eq_true (by assumption)], hS.nil⟩)
 ·exact done1 hk (h := ⟨by rw [decide_eq_false (by assumption)], hS.nil⟩)
theorem out_any {B : Bs} {w : World} {L : List HP} {l : List Int} (id : Int) {v : Value} (hS : St B (OwT 3 l v :: L) w) (hl : l.length ≤ 1000) :
  Calls Tryz.prog 49 #[v, .int .i64 id] w (Ret fun v' w' => St B (OwT 3 (woF l id) v' :: L) w') := by
 refine enter Tryz.func49 rfl Tryz.ntmps49 rfl (fun a hk => ?_)
 (repeat' (first|((first|refine wx1 ?_|refine wx2 ?_ ?_<;>intro hp|refine s_end hk ?_)<;>(clear hk a;intro a hk))|((first|refine wx3 ?_;intro w b|refine wx4 ?_;intro w|refine wx5 ?_;intro w v);clear hk hS a;intro hS a hk)|refine wx0 ?_|fail))
 refine sg hk (g_callO hk (hf := by kernel_rfl) (hc := delW_any (fun x => decide (x = id)) 74 [.pointer (some ⟨b, 0, none⟩)] (L := pts b [.int .i64 id] 3 :: L) (hS.sub (.cons (.there .here) (.cons .here .refl))) hl (by kernel_rfl) (fun x w' h => out1_any id x b w' (h.rd (A := pts b [.int .i64 id] 3) .here))) (h := ?_));clear hk hS a;intro vr w hS a hk
 (repeat' (first|((first|refine wx1 ?_|refine wx2 ?_ ?_<;>intro hp|refine s_end hk ?_)<;>(clear hk a;intro a hk))|((first|refine wx3 ?_;intro w b|refine wx4 ?_;intro w|refine wx5 ?_;intro w v);clear hk hS a;intro hS a hk)|refine wx0 ?_|fail))
 exact done1 hk (h := hS.sub (.cons .here Sub.cons_drop))
end Go.Proofs.YtbpkddpkcnlmhaaGreat
namespace Go.Proofs.YtbpkddpkcnlmhaaGreat
open Go.RowKit
set_option maxRecDepth 100000
attribute [local irreducible] Go.Code.wpIn Go.wpListIn Go.Calls Gives Go.Exit.then Go.Exit.inBlock Done ObxE
def idsF (f t : List Int) : List Int := t.filter (fun x => decide (x ∈ f))
def oldF (f t : List Int) : List Int := (idsF f t).map (fun x => ((posI f x : Nat) : Int))
def staysN (f t : List Int) (n : Nat) : List Int := ((lisF (oldF f t)).take n).map (fun p => at_ (idsF f t) p.toNat)
def staysF (f t : List Int) : List Int := staysN f t (lisF (oldF f t)).length
theorem ids_succ {f t : List Int} {i : Nat} {x : Int} (h : t[i]? = some x) : idsF f (t.take (i + 1)) = idsF f (t.take i) ++ (if x ∈ f then [x] else []) := by
 unfold idsF
 rw [take_snocW h, List.filter_append]
 by_cases e : x ∈ f <;> simp [e]
theorem ids_len (f t : List Int) (i : Nat) : (idsF f (t.take i)).length ≤ i :=
 Nat.le_trans (List.length_filter_le _ _) (by rw [List.length_take];omega)
theorem stays_succ {f t : List Int} {n : Nat} {p : Int} (h : (lisF (oldF f t))[n]? = some p) : staysN f t (n + 1) = staysN f t n ++ [at_ (idsF f t) p.toNat] := by
 unfold staysN
 rw [take_snocW h, List.map_append];rfl
set_option maxHeartbeats 4000000 in
theorem kept_any (f t : List Int) (mf : List (Int × Value)) (vf vt : Value) (w0 : World) (hm : ∀ k, (getL mf k).getD (.int .i64 0) = .int .i64 (posI f k : Nat)) (hf : (mapH encW vf mf).rd w0) (ht : SlT t vt w0) (hfl : f.length ≤ 1000) (htl : t.length ≤ 1000) :
  Calls Tryz.prog 47 #[vf, vt] w0 (Ret fun v w => ∃ m, (∀ k, (getL m k).getD (.int .i64 0) = .int .i64 (if k ∈ staysF f t then 1 else 0)) ∧ St w0 [mapH encW v m] w) := by
 refine enter Tryz.func47 rfl Tryz.ntmps47 rfl (fun a hk => ?_);have hS := St.refl w0
 (repeat' (first|((first|refine wx1 ?_|refine wx2 ?_ ?_<;>intro hp|refine s_end hk ?_)<;>(clear hk a;intro a hk))|((first|refine wx3 ?_;intro w b|refine wx4 ?_;intro w|refine wx5 ?_;intro w v);clear hk hS a;intro hS a hk)|refine wx0 ?_|fail))
 replace hS := (hS.nilT 3 Int).nilT 3 Int
 replace hk := Kn.kp [0, 5, 6, 12, 13, 14] hk
 refine wp_for t.length (fun i x => [(5, x.1), (6, x.2), (14, .int .i64 (i : Int))]) (fun i x => [OwT 3 (idsF f (t.take i)) x.1, OwT 3 (oldF f (t.take i)) x.2]) (fun _ _ => True) ((.slice none 0 0, .slice none 0 0) : Value × Value) hk skx hS.sb trivial ?_
 clear hk hS a
 rintro i ⟨va, vb⟩ a w hi hk hS -
 simp only at hk hS
 have ht1 := hS.rdT ht
 have hil1 := ids_len f t i
 have hol : (oldF f (t.take i)).length ≤ i := by unfold oldF;rw [List.length_map];exact hil1
 have hmr := hf.mono hS.below
 by_cases hil : i < t.length
 ·obtain ⟨x, hx⟩ : ∃ x, t[i]? = some x := ⟨_, List.getElem?_eq_getElem hil⟩
  have hst := ids_succ (f := f) hx
  have hpl := pos_le f x
  have hpz := pos_zero (l := f) (id := x)
  (repeat' (first|((first|refine wx1 ?_|refine wx2 ?_ ?_<;>intro hp|refine s_end hk ?_)<;>(clear hk a;intro a hk))|((first|refine wx3 ?_;intro w b|refine wx4 ?_;intro w|refine wx5 ?_;intro w v);clear hk hS a;intro hS a hk)|refine wx0 ?_|fail))
  refine sg hk (g_lookup (k := x) hk hmr ?_ (mT rfl) keyW (oT rfl));clear hk a;intro a hk
  rw [hm x] at hk
  by_cases hin : x ∈ f
  ·rw [if_pos hin] at hst
   have hst2 : oldF f (t.take (i + 1)) = oldF f (t.take i) ++ [((posI f x : Nat) : Int)] := by unfold oldF;rw [hst, List.map_append];rfl
   have h0 : 0 < posI f x := Nat.pos_of_ne_zero (fun h => hpz.1 h hin)
   (repeat' (first|((first|refine wx1 ?_|refine wx2 ?_ ?_<;>intro hp|refine s_end hk ?_)<;>(clear hk a;intro a hk))|((first|refine wx3 ?_;intro w b|refine wx4 ?_;intro w|refine wx5 ?_;intro w v);clear hk hS a;intro hS a hk)|refine wx0 ?_|fail))
   refine wp_drawnU2 10 mixed (by kernel_rfl) hk hS ?_;clear hk hS a
   (repeat' (first|(show ObxE _ _ _ _ _ _ _ _ _ (_::_) _ _ _;first|refine ox1 ?_|refine ox2 ?_ ?_<;>intro hp)|fail))
   refine' obe_res (fun us a w hk hd hS => ?_) ?_;rotate_left;focus (have hk := Kn.vw hk vwx;exact v_bsT (xs := [(x : Int)]) (m := 0) hk (hT := eT rfl) (hE := zT rfl) (hz := oT rfl))
   refine' obe_upd (OwT 3 (idsF f (t.take i)) va) (fun us a w X hk hd hS hL => ?_) ?_;rotate_left;focus (have hk := Kn.vw hk vwx;exact v_app hk hS (hT := eT rfl) (hTx := eT rfl) (hs := OwT.rd hd.2.1) (hE := zT rfl) (hz := oT rfl) (hzs := rfl) (hby := bT rfl) (hbytes := by simp only [List.length_cons, List.length_nil];omega) (h63 := by simp only [List.length_cons, List.length_nil, maxLen];omega))
   (repeat' (first|(show ObxE _ _ _ _ _ _ _ _ _ (_::_) _ _ _;first|refine ox1 ?_|refine ox2 ?_ ?_<;>intro hp)|fail))
   refine' obe_val (fun us a w hk hd hS => ?_) ?_;rotate_left;focus (have hk := Kn.vw hk vwx;exact g_lookup (k := x) hk (hf.mono hS.below) ⟨hm x, (same undef w).2⟩ (mT rfl) keyW (oT rfl))
   (repeat' (first|(show ObxE _ _ _ _ _ _ _ _ _ (_::_) _ _ _;first|refine ox1 ?_|refine ox2 ?_ ?_<;>intro hp)|fail))
   refine' obe_res (fun us a w hk hd hS => ?_) ?_;rotate_left;focus (have hk := Kn.vw hk vwx;exact v_bsT (xs := [((posI f x : Nat) : Int)]) (m := 0) hk (hT := eT rfl) (hE := zT rfl) (hz := oT rfl))
   refine' obe_upd (OwT 3 (oldF f (t.take i)) vb) (fun us a w X hk hd hS hL => ?_) ?_;rotate_left;focus (have hk := Kn.vw hk vwx;exact v_app hk hS (hT := eT rfl) (hTx := eT rfl) (hs := OwT.rd hd.2.1) (hE := zT rfl) (hz := oT rfl) (hzs := rfl) (hby := bT rfl) (hbytes := by simp only [List.length_cons, List.length_nil];omega) (h63 := by simp only [List.length_cons, List.length_nil, maxLen];omega))
   refine obe_nil ⟨rfl, ?_⟩;intro us a w hk hS
   rw [← hst, ← hst2] at hS
   (repeat' (first|((first|refine wx1 ?_|refine wx2 ?_ ?_<;>intro hp|refine s_end hk ?_)<;>(clear hk a;intro a hk))|((first|refine wx3 ?_;intro w b|refine wx4 ?_;intro w|refine wx5 ?_;intro w v);clear hk hS a;intro hS a hk)|refine wx0 ?_|fail))
   exact ⟨hil, (_, _), hk.sd, hS.sb, trivial⟩
  ·have h0 : posI f x = 0 := hpz.2 hin
   rw [if_neg hin, List.append_nil] at hst
   have hst2 : oldF f (t.take (i + 1)) = oldF f (t.take i) := by unfold oldF;rw [hst]
   rw [← hst, ← hst2] at hS
   (repeat' (first|((first|refine wx1 ?_|refine wx2 ?_ ?_<;>intro hp|refine s_end hk ?_)<;>(clear hk a;intro a hk))|((first|refine wx3 ?_;intro w b|refine wx4 ?_;intro w|refine wx5 ?_;intro w v);clear hk hS a;intro hS a hk)|refine wx0 ?_|fail))
   exact ⟨hil, (_, _), hk.sd, hS.sb, trivial⟩
 ·have : i = t.length := by omega
  subst this
  rw [List.take_length] at hS hil1 hol
  (repeat' (first|((first|refine wx1 ?_|refine wx2 ?_ ?_<;>intro hp|refine s_end hk ?_)<;>(clear hk a;intro a hk))|((first|refine wx3 ?_;intro w b|refine wx4 ?_;intro w|refine wx5 ?_;intro w v);clear hk hS a;intro hS a hk)|refine wx0 ?_|fail))
  refine sg hk (g_makeMap encW hS ?_);clear hk hS a;intro w mv hS a hk
  (repeat' (first|((first|refine wx1 ?_|refine wx2 ?_ ?_<;>intro hp|refine s_end hk ?_)<;>(clear hk a;intro a hk))|((first|refine wx3 ?_;intro w b|refine wx4 ?_;intro w|refine wx5 ?_;intro w v);clear hk hS a;intro hS a hk)|refine wx0 ?_|fail))
  refine sg hk (g_callO hk (hf := by kernel_rfl) (hc := lisOf_any (oldF f t) vb _ (by first | exact St.rdT hS (by assumption) | exact OwT.rd (hS.rd (A := OwT _ _ _) atx) | assumption) (by omega)) (h := ?_));clear hk a;rintro vl w hS1 a hk;replace hS := hS.call hS1;clear hS1
  (repeat' (first|((first|refine wx1 ?_|refine wx2 ?_ ?_<;>intro hp|refine s_end hk ?_)<;>(clear hk a;intro a hk))|((first|refine wx3 ?_;intro w b|refine wx4 ?_;intro w|refine wx5 ?_;intro w v);clear hk hS a;intro hS a hk)|refine wx0 ?_|fail))
  have hll : (lisF (oldF f t)).length ≤ 1000 := by rw [lis_len];exact Nat.le_trans (top_le _ _) (by omega)
  replace hk := Kn.kp [5, 9, 35, 36, 37] hk
  refine wp_for (lisF (oldF f t)).length (fun i _ => [(37, .int .i64 (i : Int))]) (fun _ m => [OwT 3 (lisF (oldF f t)) vl, mapH encW mv m, OwT 3 (idsF f t) va]) (fun i m => ∀ k, (getL m k).getD (.int .i64 0) = .int .i64 (if k ∈ staysN f t i then 1 else 0)) [] hk skx hS.sb (fun k => by simp [getL, posK, staysN]) ?_
  clear hk hS a hi hil
  rintro i m a w hi hk hS hF
  by_cases hil : i < (lisF (oldF f t)).length
  ·obtain ⟨p, hp⟩ : ∃ p, (lisF (oldF f t))[i]? = some p := ⟨_, List.getElem?_eq_getElem hil⟩
   have hpm := lis_mem (List.mem_of_getElem? hp)
   have hpl : p < (idsF f t).length := by have := hpm.2;unfold oldF at this;rw [List.length_map] at this;exact this
   obtain ⟨q, hq⟩ : ∃ q, (idsF f t)[p.toNat]? = some q := ⟨_, List.getElem?_eq_getElem (by omega)⟩
   have hat : at_ (idsF f t) p.toNat = q := by unfold at_;rw [List.getD_eq_getElem?_getD, hq];rfl
   have hst := stays_succ hp
   rw [hat] at hst
   obtain ⟨P, rfl⟩ := Int.eq_ofNat_of_zero_le hpm.1
   have hq' : (idsF f t)[P]? = some q := hq
   have hP : P < (idsF f t).length := by omega
   (repeat' (first|((first|refine wx1 ?_|refine wx2 ?_ ?_<;>intro hp|refine s_end hk ?_)<;>(clear hk a;intro a hk))|((first|refine wx3 ?_;intro w b|refine wx4 ?_;intro w|refine wx5 ?_;intro w v);clear hk hS a;intro hS a hk)|refine wx0 ?_|fail))
   refine su hk (g_mapUpdate (k := q) hk hS ?_ (mT rfl) keyW);clear hk hS a;intro w hS a hk
   (repeat' (first|((first|refine wx1 ?_|refine wx2 ?_ ?_<;>intro hp|refine s_end hk ?_)<;>(clear hk a;intro a hk))|((first|refine wx3 ?_;intro w b|refine wx4 ?_;intro w|refine wx5 ?_;intro w v);clear hk hS a;intro hS a hk)|refine wx0 ?_|fail))
   refine ⟨hil, _, hk.sd, hS.sb, fun k => ?_⟩
   rw [getL_set, hst]
   by_cases e : k = q
   ·subst e;rw [if_pos rfl, if_pos (by simp)];rfl
   ·rw [if_neg e, hF k]
    by_cases hin : k ∈ staysN f t i
    ·rw [if_pos hin, if_pos (by simp [hin])]
    ·rw [if_neg hin, if_neg (by simp [hin, e])]
  ·have : i = (lisF (oldF f t)).length := by omega
   subst this
   (repeat' (first|((first|refine wx1 ?_|refine wx2 ?_ ?_<;>intro hp|refine s_end hk ?_)<;>(clear hk a;intro a hk))|((first|refine wx3 ?_;intro w b|refine wx4 ?_;intro w|refine wx5 ?_;intro w v);clear hk hS a;intro hS a hk)|refine wx0 ?_|fail))
   exact done1 hk (h := ⟨m, hF, hS.sb⟩)
end Go.Proofs.YtbpkddpkcnlmhaaGreat
namespace Go.Proofs.YtbpkddpkcnlmhaaGreat
theorem at_sh {l : List Int} (c : Int) {j : Nat} (h : j < l.length) : at_ (l.map (· + c)) j = at_ l j + c := by
 rw [← at_get (l := l) h, ← at_get (l := l.map (· + c)) (by rw [List.length_map];exact h), List.getElem_map]
theorem lnK_sh {l : List Int} (c x : Int) (f g : Nat → Nat) : ∀ k, k ≤ l.length → (∀ j, j < k → f j = g j) → lnK (l.map (· + c)) f (x + c) k = lnK l g x k
 | 0, _, _ => rfl
 | k + 1, hk, hf => by
  have ih := lnK_sh (l := l) c x f g k (by omega) (fun j hj => hf j (by omega))
  simp only [lnK]
  rw [ih, at_sh (l := l) c (show k < l.length by omega), hf k (by omega)]
  have : at_ l k + c < x + c ↔ at_ l k < x := by omega
  simp only [this]
theorem lnF_sh {l : List Int} (c : Int) : ∀ i, i ≤ l.length → ∀ j, lnF (l.map (· + c)) i j = lnF l i j
 | 0, _, _ => rfl
 | i + 1, hi, j => by
  have ih := lnF_sh (l := l) c i (by omega)
  simp only [lnF]
  by_cases e : j = i
  ·rw [if_pos e, if_pos e, at_sh (l := l) c (show i < l.length by omega)]
   exact lnK_sh (l := l) c _ _ _ i (by omega) (fun j _ => ih j)
  ·rw [if_neg e, if_neg e];exact ih j
theorem ln_sh {l : List Int} (c : Int) {j : Nat} (h : j < l.length) : ln (l.map (· + c)) j = ln l j := lnF_sh (l := l) c (j + 1) (by omega) j
theorem bestLt {l : List Int} : ∀ (b n j : Nat), best l b n = some j → j < b
 | 0, _, _, h => by simp [best] at h
 | b + 1, n, j, h => by
  simp only [best] at h
  split at h
  ·cases h;omega
  ·have := bestLt b n j h;omega
theorem best_sh {l : List Int} (c : Int) (n : Nat) : ∀ b, b ≤ l.length → best (l.map (· + c)) b n = best l b n
 | 0, _ => rfl
 | b + 1, hb => by
  have ih := best_sh (l := l) c n b (by omega)
  simp only [best]
  rw [ih, ln_sh (l := l) c (show b < l.length by omega)]
  have : (∀ j, best l b n = some j → at_ (l.map (· + c)) b < at_ (l.map (· + c)) j) ↔ (∀ j, best l b n = some j → at_ l b < at_ l j) := by
   constructor
   ·intro h j hj
    have h1 := bestLt b n j hj
    have := h j hj
    rw [at_sh (l := l) c (show b < l.length by omega), at_sh (l := l) c (show j < l.length by omega)] at this
    omega
   ·intro h j hj
    have h1 := bestLt b n j hj
    have := h j hj
    rw [at_sh (l := l) c (show b < l.length by omega), at_sh (l := l) c (show j < l.length by omega)]
    omega
  simp only [this]
theorem top_sh {l : List Int} (c : Int) : ∀ b, b ≤ l.length → top (l.map (· + c)) b = top l b
 | 0, _ => rfl
 | b + 1, hb => by
  simp only [top]
  rw [top_sh (l := l) c b (by omega), ln_sh (l := l) c (show b < l.length by omega)]
end Go.Proofs.YtbpkddpkcnlmhaaGreat
namespace Go.Proofs.YtbpkddpkcnlmhaaGreat
open Go.RowKit
set_option maxRecDepth 100000
attribute [local irreducible] Go.Code.wpIn Go.wpListIn Go.Calls Gives Go.Exit.then Go.Exit.inBlock Done ObxE
end Go.Proofs.YtbpkddpkcnlmhaaGreat
namespace Go.Proofs.YtbpkddpkcnlmhaaGreat
open Go.RowKit
set_option maxRecDepth 100000
attribute [local irreducible] Go.Code.wpIn Go.wpListIn Go.Calls Gives Go.Exit.then Go.Exit.inBlock Done ObxE
def stepW (o : List Int) (s : StepW) : Option (List Int) :=
 if s.1 < 1 ∨ 3 < s.1 ∨ (s.2.1 ∈ o ↔ s.1 = 2) then none
 else if 1 < s.1 then (if s.2.2 < 0 ∨ ((woF o s.2.1).length : Int) < s.2.2 then none else some (insF (woF o s.2.1) s.2.2.toNat s.2.1)) else some (woF o s.2.1)
def applyW (o : List Int) (t : List StepW) : Option (List Int) := t.foldl (fun a s => a.bind (stepW · s)) (some o)
theorem apply_succ {o : List Int} {t : List StepW} {i : Nat} {s : StepW} (h : t[i]? = some s) : applyW o (t.take (i + 1)) = (applyW o (t.take i)).bind (stepW · s) := by
 unfold applyW
 rw [List.take_add_one, h, List.foldl_append];rfl
theorem apply_none (a : List StepW) : ∀ t : List StepW, t.foldl (fun a s => a.bind (stepW · s)) (none : Option (List Int)) = none
 | [] => rfl
 | _ :: t => by rw [List.foldl_cons];exact apply_none a t
theorem apply_cut {o : List Int} {t : List StepW} {i : Nat} (h : applyW o (t.take i) = none) : applyW o t = none := by
 have hs : t = t.take i ++ t.drop i := (List.take_append_drop i t).symm
 unfold applyW at h ⊢
 rw [hs, List.foldl_append, h]
 exact apply_none t _
end Go.Proofs.YtbpkddpkcnlmhaaGreat
