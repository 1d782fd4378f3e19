/- Layers 1 and 23: products, quotients downwards, what is left on the way. Layer 11 (flow): boxes in rows. The pen. Layer 11 (flow): boxes in rows. -/
import Derived.Test.YtbpkddpkcnlmhaaGreatF15
import Derived.Test.YtbpkddpkcnlmhaaGreatF14
set_option linter.all false
namespace Go.Proofs.YtbpkddpkcnlmhaaGreat
open Go.RowKit
set_option maxRecDepth 100000
attribute [local irreducible] Go.Code.wpIn Go.wpListIn Go.Calls Gives Go.Exit.then Go.Exit.inBlock Done ObxE
def mulF (a b : Int) : Int := satF (satF a * satF b)
def flF (a b : Int) : Int := if a.tmod b ≠ 0 ∧ (decide (a.tmod b < 0) != decide (b < 0)) = true then a.tdiv b - 1 else a.tdiv b
def divF (a b : Int) : Int := if b = 0 then 0 else satF (flF (satF a) (satF b))
theorem satF_zero {b : Int} : satF b = 0 ↔ b = 0 := by unfold satF; omega
theorem mul_bd {a b : Int} (ha : -2147483648 ≤ a ∧ a ≤ 2147483647) (hb : -2147483648 ≤ b ∧ b ≤ 2147483647) : -4611686018427387904 ≤ a * b ∧ a * b ≤ 4611686018427387904 := by
 have h : (a * b).natAbs ≤ 4611686018427387904 := by
  rw [Int.natAbs_mul]
  exact Nat.le_trans (Nat.mul_le_mul (show a.natAbs ≤ 2147483648 by omega) (show b.natAbs ≤ 2147483648 by omega)) (by decide)
 omega
theorem tdiv_bd {a b : Int} (ha : -2147483648 ≤ a ∧ a ≤ 2147483647) : -2147483648 ≤ a.tdiv b ∧ a.tdiv b ≤ 2147483648 := by
 have h : (a.tdiv b).natAbs ≤ 2147483648 := by
  rw [Int.natAbs_tdiv]
  exact Nat.le_trans (Nat.div_le_self _ _) (by omega)
 omega
theorem tmod_facts {a b : Int} (hb : b ≠ 0) : b * a.tdiv b + a.tmod b = a ∧ (a.tmod b).natAbs < b.natAbs ∧ (0 ≤ a → 0 ≤ a.tmod b) ∧ (a ≤ 0 → a.tmod b ≤ 0) := by
 refine ⟨Int.mul_tdiv_add_tmod a b, ?_, fun h => Int.tmod_nonneg b h, fun h => ?_⟩
 ·rw [Int.natAbs_tmod]
  exact Nat.mod_lt _ (Int.natAbs_pos.2 hb)
 ·have := Int.tmod_nonneg b (a := -a) (by omega)
  rw [Int.neg_tmod] at this
  omega
theorem mul_any (x y : Int) (w0 : World) : Calls Tryz.prog 116 #[.int .i64 x, .int .i64 y] w0 (Ret fun v w => v = .int .i64 (mulF x y) ∧ St w0 [] w) := by
 have hb := mul_bd (satF_bd x) (satF_bd y)
 refine enter Tryz.func116 rfl Tryz.ntmps116 rfl (fun a hk => ?_);have hS := St.refl w0
 (repeat' (first|((first|refine wx1 ?_|refine wx2 ?_ ?_<;>intro hp|refine s_end hk ?_)<;>(clear hk a;intro a hk))|((first|refine wx3 ?_;intro w b|refine wx4 ?_;intro w|refine wx5 ?_;intro w v);clear hk hS a;intro hS a hk)|refine wx0 ?_|fail))
 refine sg hk (g_callO hk (hf := by kernel_rfl) (hc := sat_any _ _) (h := ?_));clear hk a;rintro _ w ⟨rfl, hS1⟩ a hk;replace hS := hS.call0 hS1;clear hS1
 (repeat' (first|((first|refine wx1 ?_|refine wx2 ?_ ?_<;>intro hp|refine s_end hk ?_)<;>(clear hk a;intro a hk))|((first|refine wx3 ?_;intro w b|refine wx4 ?_;intro w|refine wx5 ?_;intro w v);clear hk hS a;intro hS a hk)|refine wx0 ?_|fail))
 refine sg hk (g_callO hk (hf := by kernel_rfl) (hc := sat_any _ _) (h := ?_));clear hk a;rintro _ w ⟨rfl, hS1⟩ a hk;replace hS := hS.call0 hS1;clear hS1
 refine sg hk (g_mul hk ?_ (hlo := by omega) (hhi := by omega));clear hk a;intro a hk
 refine sg hk (g_callO hk (hf := by kernel_rfl) (hc := sat_any _ _) (h := ?_));clear hk a;rintro _ w ⟨rfl, hS1⟩ a hk;replace hS := hS.call0 hS1;clear hS1
 (repeat' (first|((first|refine wx1 ?_|refine wx2 ?_ ?_<;>intro hp|refine s_end hk ?_)<;>(clear hk a;intro a hk))|((first|refine wx3 ?_;intro w b|refine wx4 ?_;intro w|refine wx5 ?_;intro w v);clear hk hS a;intro hS a hk)|refine wx0 ?_|fail))
 exact done1 hk (h := ⟨rfl, hS.nil⟩)
theorem floor_any (x y : Int) (w0 : World) (hx : -2147483648 ≤ x ∧ x ≤ 2147483647) (hy : -2147483648 ≤ y ∧ y ≤ 2147483647) (h0 : y ≠ 0) : Calls Tryz.prog 128 #[.int .i64 x, .int .i64 y] w0
  (Ret fun v w => ∃ r, v = .tuple #[.int .i64 (flF x y), .int .i64 r] ∧ St w0 [] w) := by
 have hq := tdiv_bd (b := y) hx
 obtain ⟨hm, hr, hr1, hr2⟩ := tmod_facts (a := x) h0
 have hw : IntKind.i64.wrap (x.tdiv y) = x.tdiv y := IntWalk.i64_in _ ⟨by omega, by omega⟩
 unfold flF
 generalize hr0 : x.tmod y = r at *
 generalize hq0 : x.tdiv y = q at *
 refine enter Tryz.func128 rfl Tryz.ntmps128 rfl (fun a hk => ?_);have hS := St.refl w0
 (repeat' (first|((first|refine wx1 ?_|refine wx2 ?_ ?_<;>intro hp|refine s_end hk ?_)<;>(clear hk a;intro a hk))|((first|refine wx3 ?_;intro w b|refine wx4 ?_;intro w|refine wx5 ?_;intro w v);clear hk hS a;intro hS a hk)|refine wx0 ?_|fail))
 refine wp_drawn 7 mixed (by kernel_rfl) hk hS ?_;clear hk hS a
 (repeat' (first|(show ObxE _ _ _ _ _ _ _ _ _ (_::_) _ _ _;first|refine ox1 ?_|refine ox2 ?_ ?_<;>intro hp)|fail))
 refine' obe_val (fun us a w hk hd hS => ?_) ?_;rotate_left;focus (have hk := Kn.vw hk vwx;exact g_quo hk (same _ _) (hq := h0))
 (repeat' (first|(show ObxE _ _ _ _ _ _ _ _ _ (_::_) _ _ _;first|refine ox1 ?_|refine ox2 ?_ ?_<;>intro hp)|fail))
 refine' obe_val (fun us a w hk hd hS => ?_) ?_;rotate_left;focus (have hk := Kn.vw hk vwx;exact g_rem hk (same _ _) (hq := h0))
 (repeat' (first|(show ObxE _ _ _ _ _ _ _ _ _ (_::_) _ _ _;first|refine ox1 ?_|refine ox2 ?_ ?_<;>intro hp)|fail))
 refine obe_nil ⟨rfl, ?_⟩;intro us a w hk hS
 rw [hq0, hw, hr0] at hk
 by_cases h1 : r = 0
 ·have e : (if r ≠ 0 ∧ (decide (r < 0) != decide (y < 0)) = true then q - 1 else q) = q := if_neg (fun h => h.1 h1)
  rw [e]
  (repeat' (first|((first|refine wx1 ?_|refine wx2 ?_ ?_<;>intro hp|refine s_end hk ?_)<;>(clear hk a;intro a hk))|((first|refine wx3 ?_;intro w b|refine wx4 ?_;intro w|refine wx5 ?_;intro w v);clear hk hS a;intro hS a hk)|refine wx0 ?_|fail))
  exact done2 hk (h := ⟨_, rfl, hS.nil⟩)
 ·by_cases h2 : r < 0
  ·by_cases h3 : y < 0
   ·have e : (if r ≠ 0 ∧ (decide (r < 0) != decide (y < 0)) = true then q - 1 else q) = q := if_neg (fun h => by simp [h2, h3] at h)
    rw [e]
    (repeat' (first|((first|refine wx1 ?_|refine wx2 ?_ ?_<;>intro hp|refine s_end hk ?_)<;>(clear hk a;intro a hk))|((first|refine wx3 ?_;intro w b|refine wx4 ?_;intro w|refine wx5 ?_;intro w v);clear hk hS a;intro hS a hk)|refine wx0 ?_|fail))
    exact done2 hk (h := ⟨_, rfl, hS.nil⟩)
   ·have e : (if r ≠ 0 ∧ (decide (r < 0) != decide (y < 0)) = true then q - 1 else q) = q - 1 := if_pos (by simp [h1, h2, h3])
    rw [e]
    (repeat' (first|((first|refine wx1 ?_|refine wx2 ?_ ?_<;>intro hp|refine s_end hk ?_)<;>(clear hk a;intro a hk))|((first|refine wx3 ?_;intro w b|refine wx4 ?_;intro w|refine wx5 ?_;intro w v);clear hk hS a;intro hS a hk)|refine wx0 ?_|fail))
    exact done2 hk (h := ⟨_, rfl, hS.nil⟩)
  ·by_cases h3 : y < 0
   ·have e : (if r ≠ 0 ∧ (decide (r < 0) != decide (y < 0)) = true then q - 1 else q) = q - 1 := if_pos (by simp [h1, h2, h3])
    rw [e]
    (repeat' (first|((first|refine wx1 ?_|refine wx2 ?_ ?_<;>intro hp|refine s_end hk ?_)<;>(clear hk a;intro a hk))|((first|refine wx3 ?_;intro w b|refine wx4 ?_;intro w|refine wx5 ?_;intro w v);clear hk hS a;intro hS a hk)|refine wx0 ?_|fail))
    exact done2 hk (h := ⟨_, rfl, hS.nil⟩)
   ·have e : (if r ≠ 0 ∧ (decide (r < 0) != decide (y < 0)) = true then q - 1 else q) = q := if_neg (fun h => by simp [h2, h3] at h)
    rw [e]
    (repeat' (first|((first|refine wx1 ?_|refine wx2 ?_ ?_<;>intro hp|refine s_end hk ?_)<;>(clear hk a;intro a hk))|((first|refine wx3 ?_;intro w b|refine wx4 ?_;intro w|refine wx5 ?_;intro w v);clear hk hS a;intro hS a hk)|refine wx0 ?_|fail))
    exact done2 hk (h := ⟨_, rfl, hS.nil⟩)
theorem div_any (x y : Int) (w0 : World) : Calls Tryz.prog 117 #[.int .i64 x, .int .i64 y] w0 (Ret fun v w => v = .int .i64 (divF x y) ∧ St w0 [] w) := by
 have hs := satF_zero (b := y)
 unfold divF
 by_cases h0 : y = 0
 ·rw [if_pos h0]
  refine enter Tryz.func117 rfl Tryz.ntmps117 rfl (fun a hk => ?_);have hS := St.refl w0
  (repeat' (first|((first|refine wx1 ?_|refine wx2 ?_ ?_<;>intro hp|refine s_end hk ?_)<;>(clear hk a;intro a hk))|((first|refine wx3 ?_;intro w b|refine wx4 ?_;intro w|refine wx5 ?_;intro w v);clear hk hS a;intro hS a hk)|refine wx0 ?_|fail))
  exact done1 hk (h := ⟨rfl, hS.nil⟩)
 ·rw [if_neg h0]
  refine enter Tryz.func117 rfl Tryz.ntmps117 rfl (fun a hk => ?_);have hS := St.refl w0
  (repeat' (first|((first|refine wx1 ?_|refine wx2 ?_ ?_<;>intro hp|refine s_end hk ?_)<;>(clear hk a;intro a hk))|((first|refine wx3 ?_;intro w b|refine wx4 ?_;intro w|refine wx5 ?_;intro w v);clear hk hS a;intro hS a hk)|refine wx0 ?_|fail))
  refine sg hk (g_callO hk (hf := by kernel_rfl) (hc := sat_any _ _) (h := ?_));clear hk a;rintro _ w ⟨rfl, hS1⟩ a hk;replace hS := hS.call0 hS1;clear hS1
  (repeat' (first|((first|refine wx1 ?_|refine wx2 ?_ ?_<;>intro hp|refine s_end hk ?_)<;>(clear hk a;intro a hk))|((first|refine wx3 ?_;intro w b|refine wx4 ?_;intro w|refine wx5 ?_;intro w v);clear hk hS a;intro hS a hk)|refine wx0 ?_|fail))
  refine sg hk (g_callO hk (hf := by kernel_rfl) (hc := sat_any _ _) (h := ?_));clear hk a;rintro _ w ⟨rfl, hS1⟩ a hk;replace hS := hS.call0 hS1;clear hS1
  refine sg hk (g_callO hk (hf := by kernel_rfl) (hc := floor_any _ _ _ (satF_bd x) (satF_bd y) (fun h => h0 (hs.1 h))) (h := ?_));clear hk a;rintro vr w ⟨r, rfl, hS1⟩ a hk;replace hS := hS.call hS1;clear hS1
  (repeat' (first|((first|refine wx1 ?_|refine wx2 ?_ ?_<;>intro hp|refine s_end hk ?_)<;>(clear hk a;intro a hk))|((first|refine wx3 ?_;intro w b|refine wx4 ?_;intro w|refine wx5 ?_;intro w v);clear hk hS a;intro hS a hk)|refine wx0 ?_|fail))
  refine sg hk (g_callO hk (hf := by kernel_rfl) (hc := sat_any _ _) (h := ?_));clear hk a;rintro _ w ⟨rfl, hS1⟩ a hk;replace hS := hS.call0 hS1;clear hS1
  (repeat' (first|((first|refine wx1 ?_|refine wx2 ?_ ?_<;>intro hp|refine s_end hk ?_)<;>(clear hk a;intro a hk))|((first|refine wx3 ?_;intro w b|refine wx4 ?_;intro w|refine wx5 ?_;intro w v);clear hk hS a;intro hS a hk)|refine wx0 ?_|fail))
  exact done1 hk (h := ⟨rfl, hS.nil⟩)
end Go.Proofs.YtbpkddpkcnlmhaaGreat
namespace Go.Proofs.YtbpkddpkcnlmhaaGreat
open Go.RowKit
set_option maxRecDepth 100000
attribute [local irreducible] Go.Code.wpIn Go.wpListIn Go.Calls Gives Go.Exit.then Go.Exit.inBlock Done ObxE
def sumF (l : List Int) : Int := l.foldl addF 0
abbrev Pq (x : Int) : Prop := 0 ≤ x ∧ x ≤ 2147483647
theorem addF_pq {x y : Int} (hx : Pq x) (hy : Pq y) : Pq (addF x y) := by unfold addF satF; omega
theorem max0_pq (x : Int) : Pq (max 0 (satF x)) := by unfold satF; omega
theorem sumF_pq : ∀ {l : List Int} {a : Int}, Pq a → (∀ x ∈ l, Pq x) → Pq (l.foldl addF a)
 | [], _, ha, _ => ha
 | x :: l, a, ha, h => sumF_pq (l := l) (a := addF a x) (addF_pq ha (h x List.mem_cons_self)) (fun y hy => h y (List.mem_cons_of_mem _ hy))
theorem sum6_any (l : List Int) (v : Value) (w0 : World) (hv : SlT l v w0) (hl : l.length ≤ 10000) : Calls Tryz.prog 80 #[v] w0 (Ret fun v w => v = .int .i64 (sumF l) ∧ St w0 [] w) := by
 refine enter Tryz.func80 rfl Tryz.ntmps80 rfl (fun a hk => ?_);have hS := St.refl w0
 (repeat' (first|((first|refine wx1 ?_|refine wx2 ?_ ?_<;>intro hp|refine s_end hk ?_)<;>(clear hk a;intro a hk))|((first|refine wx3 ?_;intro w b|refine wx4 ?_;intro w|refine wx5 ?_;intro w v);clear hk hS a;intro hS a hk)|refine wx0 ?_|fail))
 replace hk := Kn.kp [3, 6, 7, 8] hk
 refine wp_for l.length (fun i _ => [(3, .int .i64 (sumF (l.take i))), (8, .int .i64 (i : Int))]) (fun _ _ => []) (fun _ _ => True) () hk skx hS.sb trivial ?_
 clear hk hS a
 rintro i - a w hi hk hS -
 by_cases hil : i < l.length
 ·obtain ⟨x, hx⟩ : ∃ x, l[i]? = some x := ⟨_, List.getElem?_eq_getElem hil⟩
  have hst : sumF (l.take (i + 1)) = addF (sumF (l.take i)) x := by simp only [sumF];rw [take_snoc hx, List.foldl_append];rfl
  (repeat' (first|((first|refine wx1 ?_|refine wx2 ?_ ?_<;>intro hp|refine s_end hk ?_)<;>(clear hk a;intro a hk))|((first|refine wx3 ?_;intro w b|refine wx4 ?_;intro w|refine wx5 ?_;intro w v);clear hk hS a;intro hS a hk)|refine wx0 ?_|fail))
  refine sg hk (g_callO hk (hf := by kernel_rfl) (hc := add_any (sumF (l.take i)) x _) (h := ?_));clear hk a;rintro _ w ⟨rfl, hS1⟩ a hk;replace hS := hS.call0 hS1;clear hS1
  rw [← hst] at hk
  (repeat' (first|((first|refine wx1 ?_|refine wx2 ?_ ?_<;>intro hp|refine s_end hk ?_)<;>(clear hk a;intro a hk))|((first|refine wx3 ?_;intro w b|refine wx4 ?_;intro w|refine wx5 ?_;intro w v);clear hk hS a;intro hS a hk)|refine wx0 ?_|fail))
  exact ⟨hil, (), hk.sd, hS.sb, trivial⟩
 ·have hii : i = l.length := by omega
  subst hii
  rw [List.take_length] at hk
  (repeat' (first|((first|refine wx1 ?_|refine wx2 ?_ ?_<;>intro hp|refine s_end hk ?_)<;>(clear hk a;intro a hk))|((first|refine wx3 ?_;intro w b|refine wx4 ?_;intro w|refine wx5 ?_;intro w v);clear hk hS a;intro hS a hk)|refine wx0 ?_|fail))
  exact done1 hk (h := ⟨rfl, hS.nil⟩)
def leastF (x : Int) : Int := max 0 (satF x)
theorem least_any (x : Int) (w0 : World) : Calls Tryz.prog 112 #[.int .i64 x] w0 (Ret fun v w => v = .int .i64 (leastF x) ∧ St w0 [] w) := by
 refine enter Tryz.func112 rfl Tryz.ntmps112 rfl (fun a hk => ?_);have hS := St.refl w0
 (repeat' (first|((first|refine wx1 ?_|refine wx2 ?_ ?_<;>intro hp|refine s_end hk ?_)<;>(clear hk a;intro a hk))|((first|refine wx3 ?_;intro w b|refine wx4 ?_;intro w|refine wx5 ?_;intro w v);clear hk hS a;intro hS a hk)|refine wx0 ?_|fail))
 refine sg hk (g_callO hk (hf := by kernel_rfl) (hc := sat_any _ _) (h := ?_));clear hk a;rintro _ w ⟨rfl, hS1⟩ a hk;replace hS := hS.call0 hS1;clear hS1
 (repeat' (first|((first|refine wx1 ?_|refine wx2 ?_ ?_<;>intro hp|refine s_end hk ?_)<;>(clear hk a;intro a hk))|((first|refine wx3 ?_;intro w b|refine wx4 ?_;intro w|refine wx5 ?_;intro w v);clear hk hS a;intro hS a hk)|refine wx0 ?_|fail))
 exact done1 hk (h := ⟨rfl, hS.nil⟩)
abbrev szV (s : Int × Int) : Value := .agg #[.int .i64 s.1, .int .i64 s.2]
def plainF (s : Int × Int) : Int × Int := (leastF s.1, leastF s.2)
theorem plain6_any (x y : Int) (w0 : World) : Calls Tryz.prog 124 #[.agg #[.int .i64 x, .int .i64 y]] w0 (Ret fun v w => v = .agg #[.int .i64 (leastF x), .int .i64 (leastF y)] ∧ St w0 [] w) := by
 refine enter Tryz.func124 rfl Tryz.ntmps124 rfl (fun a hk => ?_);have hS := St.refl w0
 (repeat' (first|((first|refine wx1 ?_|refine wx2 ?_ ?_<;>intro hp|refine s_end hk ?_)<;>(clear hk a;intro a hk))|((first|refine wx3 ?_;intro w b|refine wx4 ?_;intro w|refine wx5 ?_;intro w v);clear hk hS a;intro hS a hk)|refine wx0 ?_|fail))
 refine wp_drawn 7 mixed (by kernel_rfl) hk hS ?_;clear hk hS a
 (repeat' (first|(show ObxE _ _ _ _ _ _ _ _ _ (_::_) _ _ _;first|refine ox1 ?_|refine ox2 ?_ ?_<;>intro hp)|fail))
 refine' obe_val (fun us a w hk hd hS => ?_) ?_;rotate_left;focus (have hk := Kn.vw hk vwx;exact g_callO hk (hf := by kernel_rfl) (hc := least_any x _) (h := fun _ _ h => h))
 (repeat' (first|(show ObxE _ _ _ _ _ _ _ _ _ (_::_) _ _ _;first|refine ox1 ?_|refine ox2 ?_ ?_<;>intro hp)|fail))
 refine' obe_val (fun us a w hk hd hS => ?_) ?_;rotate_left;focus (have hk := Kn.vw hk vwx;exact g_callO hk (hf := by kernel_rfl) (hc := least_any y _) (h := fun _ _ h => h))
 (repeat' (first|(show ObxE _ _ _ _ _ _ _ _ _ (_::_) _ _ _;first|refine ox1 ?_|refine ox2 ?_ ?_<;>intro hp)|fail))
 refine obe_nil ⟨rfl, ?_⟩;intro us a w hk hS
 (repeat' (first|((first|refine wx1 ?_|refine wx2 ?_ ?_<;>intro hp|refine s_end hk ?_)<;>(clear hk a;intro a hk))|((first|refine wx3 ?_;intro w b|refine wx4 ?_;intro w|refine wx5 ?_;intro w v);clear hk hS a;intro hS a hk)|refine wx0 ?_|fail))
 exact done1R hk rfl (.str hS (hT := aT rfl) (hs := zT rfl)) (h := ⟨rfl, hS.nil⟩)
abbrev Pen := Int × Int × Int × Int × Int × Bool
abbrev penC : Pen → List Value
 | (x, y, h, gap, wide, any) => [.int .i64 x, .int .i64 y, .int .i64 h, .int .i64 gap, .int .i64 wide, .bool any]
def penRow : Pen → Pen
 | (_, y, h, gap, wide, any) => (0, if any then sumF [y, h, gap] else y, 0, gap, wide, any)
def penPut : Pen → Int × Int → Int → Pen
 | (x, y, h, gap, wide, _), s, n => (sumF [x, n, gap], y, max h s.2, gap, max wide (addF x n), true)
def penAll : Pen → Int × Int
 | (_, y, h, _, wide, _) => (wide, addF y h)
theorem row6_any {B : Bs} {w : World} {L : List HP} (b : Nat) (p : Pen) (hS : St B (pts b (penC p) 169 :: L) w) :
  Calls Tryz.prog 125 #[pA b] w (Ret fun _ w' => St B (pts b (penC (penRow p)) 169 :: L) w') := by
 obtain ⟨x, y, h, gap, wide, any⟩ := p
 simp only [penC] at hS
 refine enter Tryz.func125 rfl Tryz.ntmps125 rfl (fun a hk => ?_)
 cases any
 ·(repeat' (first|((first|refine wx1 ?_|refine wx2 ?_ ?_<;>intro hp|refine s_end hk ?_)<;>(clear hk a;intro a hk))|((first|refine wx3 ?_;intro w b|refine wx4 ?_;intro w|refine wx5 ?_;intro w v);clear hk hS a;intro hS a hk)|refine wx0 ?_|fail))
  exact done0n hk (h := hS)
 ·(repeat' (first|((first|refine wx1 ?_|refine wx2 ?_ ?_<;>intro hp|refine s_end hk ?_)<;>(clear hk a;intro a hk))|((first|refine wx3 ?_;intro w b|refine wx4 ?_;intro w|refine wx5 ?_;intro w v);clear hk hS a;intro hS a hk)|refine wx0 ?_|fail))
  refine wp_drawn 15 mixed (by kernel_rfl) hk hS ?_;clear hk hS a
  (repeat' (first|(show ObxE _ _ _ _ _ _ _ _ _ (_::_) _ _ _;first|refine ox1 ?_|refine ox2 ?_ ?_<;>intro hp)|fail))
  refine' obe_res (fun us a w hk hd hS => ?_) ?_;rotate_left;focus (have hk := Kn.vw hk vwx;exact v_bsT (xs := [y, h, gap]) (m := 2) hk (hT := eT rfl) (hE := zT rfl) (hz := oT rfl))
  refine' obe_val (c := .int .i64 (sumF [y, h, gap])) (fun us a w hk hd hS => ?_) ?_
  ·have hk := Kn.vw hk vwx
   exact g_callO hk (hf := by kernel_rfl) (hc := sum6_any [y, h, gap] _ _ (OwT.rd hd.1) (by simp)) (h := fun _ _ h => h)
  refine obe_nil ⟨rfl, ?_⟩;intro us a w hk hS
  simp only [resE, List.cons_append, List.nil_append, Nat.zero_add, Nat.reduceAdd] at hS
  (repeat' (first|((first|refine wx1 ?_|refine wx2 ?_ ?_<;>intro hp|refine s_end hk ?_)<;>(clear hk a;intro a hk))|((first|refine wx3 ?_;intro w b|refine wx4 ?_;intro w|refine wx5 ?_;intro w v);clear hk hS a;intro hS a hk)|refine wx0 ?_|fail))
  exact done0n hk (h := hS.sub (.cons atx sbx))
theorem put6_any {B : Bs} {w : World} {L : List HP} (b : Nat) (p : Pen) (sx sy n : Int) (hS : St B (pts b (penC p) 169 :: L) w) :
  Calls Tryz.prog 126 #[pA b, .agg #[.int .i64 sx, .int .i64 sy], .int .i64 n] w (Ret fun v w' => v = .agg #[.int .i64 p.1, .int .i64 p.2.1] ∧ St B (pts b (penC (penPut p (sx, sy) n)) 169 :: L) w') := by
 obtain ⟨x, y, h, gap, wide, any⟩ := p
 simp only [penC] at hS
 refine enter Tryz.func126 rfl Tryz.ntmps126 rfl (fun a hk => ?_)
 (repeat' (first|((first|refine wx1 ?_|refine wx2 ?_ ?_<;>intro hp|refine s_end hk ?_)<;>(clear hk a;intro a hk))|((first|refine wx3 ?_;intro w b|refine wx4 ?_;intro w|refine wx5 ?_;intro w v);clear hk hS a;intro hS a hk)|refine wx0 ?_|fail))
 refine wp_drawn 10 mixed (by kernel_rfl) hk hS ?_;clear hk hS a
 (repeat' (first|(show ObxE _ _ _ _ _ _ _ _ _ (_::_) _ _ _;first|refine ox1 ?_|refine ox2 ?_ ?_<;>intro hp)|fail))
 refine' obe_res (fun us a w hk hd hS => ?_) ?_;rotate_left;focus (have hk := Kn.vw hk vwx;exact v_alloc hk (oT rfl))
 refine obe_nil ⟨rfl, ?_⟩;intro us a w hk hS
 simp only [resE, List.cons_append, List.nil_append, Nat.zero_add, Nat.reduceAdd] at hS
 obtain ⟨b7, hb7, hS1⟩ := hS.ptv atx;replace hS := hS1;clear hS1
 replace hk := Kn.kp [0, 2, 4, 6, 7, 16] hk
 simp only [HV.of, Nat.zero_add, Nat.reduceAdd] at hk
 rw [hb7] at hk
 (repeat' (first|((first|refine wx1 ?_|refine wx2 ?_ ?_<;>intro hp|refine s_end hk ?_)<;>(clear hk a;intro a hk))|((first|refine wx3 ?_;intro w b|refine wx4 ?_;intro w|refine wx5 ?_;intro w v);clear hk hS a;intro hS a hk)|refine wx0 ?_|fail))
 refine wp_drawn 8 mixed (by kernel_rfl) hk hS ?_;clear hk hS a
 (repeat' (first|(show ObxE _ _ _ _ _ _ _ _ _ (_::_) _ _ _;first|refine ox1 ?_|refine ox2 ?_ ?_<;>intro hp)|fail))
 refine obe_nil ⟨rfl, ?_⟩;intro us a w hk hS
 (repeat' (first|((first|refine wx1 ?_|refine wx2 ?_ ?_<;>intro hp|refine s_end hk ?_)<;>(clear hk a;intro a hk))|((first|refine wx3 ?_;intro w b|refine wx4 ?_;intro w|refine wx5 ?_;intro w v);clear hk hS a;intro hS a hk)|refine wx0 ?_|fail))
 refine wp_drawn 12 mixed (by kernel_rfl) hk hS ?_;clear hk hS a
 (repeat' (first|(show ObxE _ _ _ _ _ _ _ _ _ (_::_) _ _ _;first|refine ox1 ?_|refine ox2 ?_ ?_<;>intro hp)|fail))
 refine' obe_val (fun us a w hk hd hS => ?_) ?_;rotate_left;focus (have hk := Kn.vw hk vwx;exact g_callO hk (hf := by kernel_rfl) (hc := add_any x n _) (h := fun _ _ h => h))
 (repeat' (first|(show ObxE _ _ _ _ _ _ _ _ _ (_::_) _ _ _;first|refine ox1 ?_|refine ox2 ?_ ?_<;>intro hp)|fail))
 refine obe_nil ⟨rfl, ?_⟩;intro us a w hk hS
 (repeat' (first|((first|refine wx1 ?_|refine wx2 ?_ ?_<;>intro hp|refine s_end hk ?_)<;>(clear hk a;intro a hk))|((first|refine wx3 ?_;intro w b|refine wx4 ?_;intro w|refine wx5 ?_;intro w v);clear hk hS a;intro hS a hk)|refine wx0 ?_|fail))
 refine wp_drawn 12 mixed (by kernel_rfl) hk hS ?_;clear hk hS a
 (repeat' (first|(show ObxE _ _ _ _ _ _ _ _ _ (_::_) _ _ _;first|refine ox1 ?_|refine ox2 ?_ ?_<;>intro hp)|fail))
 refine' obe_res (fun us a w hk hd hS => ?_) ?_;rotate_left;focus (have hk := Kn.vw hk vwx;exact v_bsT (xs := [x, n, gap]) (m := 2) hk (hT := eT rfl) (hE := zT rfl) (hz := oT rfl))
 refine' obe_val (c := .int .i64 (sumF [x, n, gap])) (fun us a w hk hd hS => ?_) ?_
 ·have hk := Kn.vw hk vwx
  exact g_callO hk (hf := by kernel_rfl) (hc := sum6_any [x, n, gap] _ _ (OwT.rd hd.1) (by simp)) (h := fun _ _ h => h)
 refine obe_nil ⟨rfl, ?_⟩;intro us a w hk hS
 simp only [resE, List.cons_append, List.nil_append, Nat.zero_add, Nat.reduceAdd] at hS
 (repeat' (first|((first|refine wx1 ?_|refine wx2 ?_ ?_<;>intro hp|refine s_end hk ?_)<;>(clear hk a;intro a hk))|((first|refine wx3 ?_;intro w b|refine wx4 ?_;intro w|refine wx5 ?_;intro w v);clear hk hS a;intro hS a hk)|refine wx0 ?_|fail))
 exact done1R hk rfl (.str hS (hT := aT rfl) (hs := zT rfl)) (h := ⟨rfl, hS.sub (.cons atx sbx)⟩)
theorem whole6_any {B : Bs} {w : World} {L : List HP} (b : Nat) (p : Pen) (hS : St B (pts b (penC p) 169 :: L) w) :
  Calls Tryz.prog 127 #[pA b] w (Ret fun v w' => v = szV (penAll p) ∧ St B (pts b (penC p) 169 :: L) w') := by
 obtain ⟨x, y, h, gap, wide, any⟩ := p
 simp only [penC] at hS ⊢
 refine enter Tryz.func127 rfl Tryz.ntmps127 rfl (fun a hk => ?_)
 (repeat' (first|((first|refine wx1 ?_|refine wx2 ?_ ?_<;>intro hp|refine s_end hk ?_)<;>(clear hk a;intro a hk))|((first|refine wx3 ?_;intro w b|refine wx4 ?_;intro w|refine wx5 ?_;intro w v);clear hk hS a;intro hS a hk)|refine wx0 ?_|fail))
 refine wp_drawn 14 mixed (by kernel_rfl) hk hS ?_;clear hk hS a
 (repeat' (first|(show ObxE _ _ _ _ _ _ _ _ _ (_::_) _ _ _;first|refine ox1 ?_|refine ox2 ?_ ?_<;>intro hp)|fail))
 refine' obe_val (fun us a w hk hd hS => ?_) ?_;rotate_left;focus (have hk := Kn.vw hk vwx;exact g_callO hk (hf := by kernel_rfl) (hc := add_any y h _) (h := fun _ _ h => h))
 (repeat' (first|(show ObxE _ _ _ _ _ _ _ _ _ (_::_) _ _ _;first|refine ox1 ?_|refine ox2 ?_ ?_<;>intro hp)|fail))
 refine obe_nil ⟨rfl, ?_⟩;intro us a w hk hS
 (repeat' (first|((first|refine wx1 ?_|refine wx2 ?_ ?_<;>intro hp|refine s_end hk ?_)<;>(clear hk a;intro a hk))|((first|refine wx3 ?_;intro w b|refine wx4 ?_;intro w|refine wx5 ?_;intro w v);clear hk hS a;intro hS a hk)|refine wx0 ?_|fail))
 exact done1R hk rfl (.str hS (hT := aT rfl) (hs := zT rfl)) (h := ⟨rfl, hS.sub (.cons atx sbx)⟩)
end Go.Proofs.YtbpkddpkcnlmhaaGreat
namespace Go.Proofs.YtbpkddpkcnlmhaaGreat
open Go.RowKit
set_option maxRecDepth 100000
attribute [local irreducible] Go.Code.wpIn Go.wpListIn Go.Calls Gives Go.Exit.then Go.Exit.inBlock Done ObxE
def rowStep (takes : Int × Int → Int) (next : Int → Pen → Int → Bool) (st : List (Int × Int) × Pen) (s : Int × Int) : List (Int × Int) × Pen :=
 let s' := plainF s
 let n := takes s'
 let p := if 0 < st.1.length ∧ next st.1.length st.2 n = true then penRow st.2 else st.2
 (st.1 ++ [(p.1, p.2.1)], penPut p s' n)
theorem rowStep_t {takes : Int × Int → Int} {next : Int → Pen → Int → Bool} {acc : List (Int × Int)} {p : Pen} {s : Int × Int} (h : 0 < acc.length ∧ next acc.length p (takes (plainF s)) = true) :
  rowStep takes next (acc, p) s = (acc ++ [((penRow p).1, (penRow p).2.1)], penPut (penRow p) (plainF s) (takes (plainF s))) := by simp only [rowStep, if_pos h]
theorem rowStep_f {takes : Int × Int → Int} {next : Int → Pen → Int → Bool} {acc : List (Int × Int)} {p : Pen} {s : Int × Int} (h : ¬ (0 < acc.length ∧ next acc.length p (takes (plainF s)) = true)) :
  rowStep takes next (acc, p) s = (acc ++ [(p.1, p.2.1)], penPut p (plainF s) (takes (plainF s))) := by simp only [rowStep, if_neg h]
def rowsF (gap : Int) (takes : Int × Int → Int) (next : Int → Pen → Int → Bool) (l : List (Int × Int)) : List (Int × Int) × Pen := l.foldl (rowStep takes next) ([], (0, 0, 0, leastF gap, 0, false))
theorem rowsF_snoc (gap : Int) (takes : Int × Int → Int) (next : Int → Pen → Int → Bool) (l : List (Int × Int)) (s : Int × Int) : rowsF gap takes next (l ++ [s]) = rowStep takes next (rowsF gap takes next l) s := by
 simp only [rowsF, List.foldl_append, List.foldl_cons, List.foldl_nil]
theorem rowStep_len (takes : Int × Int → Int) (next : Int → Pen → Int → Bool) (st : List (Int × Int) × Pen) (s : Int × Int) : (rowStep takes next st s).1.length = st.1.length + 1 := by simp [rowStep]
theorem rowsF_len (gap : Int) (takes : Int × Int → Int) (next : Int → Pen → Int → Bool) (l : List (Int × Int)) : (rowsF gap takes next l).1.length = l.length := by
 have : ∀ (l : List (Int × Int)) (st : List (Int × Int) × Pen), (l.foldl (rowStep takes next) st).1.length = st.1.length + l.length := by
  intro l
  induction l with
  | nil => intro st;rfl
  | cons s l ih => intro st;rw [List.foldl_cons, ih, rowStep_len, List.length_cons];omega
 have h := this l ([], (0, 0, 0, leastF gap, 0, false))
 simpa [rowsF] using h
set_option maxHeartbeats 8000000 in
theorem rows6_any (gap : Int) (takes : Int × Int → Int) (next : Int → Pen → Int → Bool) (ft fn : FuncId) (ct cn : List Value) (l : List (Int × Int)) (v : Value) (w0 : World) (hv : SlT l v w0) (hl : l.length ≤ 1000)
  (hf : callable Tryz.prog ft = true) (hg : callable Tryz.prog fn = true)
  (ht : ∀ (s : Int × Int) (w : World), Frz w0 w → Calls Tryz.prog ft (szV s :: ct).toArray w (Ret fun v w' => v = .int .i64 (takes s) ∧ St w [] w'))
  (hn : ∀ (i : Nat) (b : Nat) (p : Pen) (n : Int) (w : World), i ≤ 1000 → Frz w0 w → (pts b (penC p) 169).rd w → Calls Tryz.prog fn (([.int .i64 (i : Int), pA b, .int .i64 n] : List Value) ++ cn).toArray w (Ret fun v w' => v = .bool (next i p n) ∧ St w [] w')) :
  Calls Tryz.prog 113 #[.int .i64 gap, v, .func (.func ft) #[] ct.toArray, .func (.func fn) #[] cn.toArray] w0 (Ret fun v w => ∃ ao c, v = .tuple #[.slice ao l.length c, szV (penAll (rowsF gap takes next l).2)] ∧ St w0 [OwT 143 (rowsF gap takes next l).1 (.slice ao l.length c)] w) := by
 refine enter Tryz.func113 rfl Tryz.ntmps113 rfl (fun a hk => ?_);have hS := St.refl w0
 (repeat' (first|((first|refine wx1 ?_|refine wx2 ?_ ?_<;>intro hp|refine s_end hk ?_)<;>(clear hk a;intro a hk))|((first|refine wx3 ?_;intro w b|refine wx4 ?_;intro w|refine wx5 ?_;intro w v);clear hk hS a;intro hS a hk)|refine wx0 ?_|fail))
 rename Nat => b9
 refine sg hk (g_callO hk (hf := by kernel_rfl) (hc := least_any gap _) (h := ?_));clear hk a;rintro _ w ⟨rfl, hS1⟩ a hk;replace hS := hS.call0 hS1;clear hS1
 (repeat' (first|((first|refine wx1 ?_|refine wx2 ?_ ?_<;>intro hp|refine s_end hk ?_)<;>(clear hk a;intro a hk))|((first|refine wx3 ?_;intro w b|refine wx4 ?_;intro w|refine wx5 ?_;intro w v);clear hk hS a;intro hS a hk)|refine wx0 ?_|fail))
 rename Nat => bp
 replace hS := hS.nilT 143 (Int × Int)
 replace hk := Kn.kp [2, 3, 9, 10, 11, 19, 20, 21] hk
 refine wp_for l.length (fun i v => [(11, .slice v.1 i v.2), (21, .int .i64 (i : Int))]) (fun i v => [OwT 143 (rowsF gap takes next (l.take i)).1 (.slice v.1 i v.2), pts bp (penC (rowsF gap takes next (l.take i)).2) 169, pts b9 [.int .i64 0, .int .i64 0] 134]) (fun _ _ => True) ((none, 0) : Option Addr × Nat) hk skx (hS.sub (.cons atx (.cons atx (.cons atx sbx)))) trivial ?_
 clear hk hS a
 rintro i ⟨ao, co⟩ a w hi hk hS -
 simp only at hk hS
 have hacc := rowsF_len gap takes next (l.take i)
 rw [List.length_take, Nat.min_eq_left hi] at hacc
 by_cases hil : i < l.length
 ·obtain ⟨⟨sx, sy⟩, hx⟩ : ∃ x, l[i]? = some x := ⟨_, List.getElem?_eq_getElem hil⟩
  have hsn : rowsF gap takes next (l.take (i + 1)) = rowStep takes next (rowsF gap takes next (l.take i)) (sx, sy) := by rw [take_snoc hx, rowsF_snoc]
  generalize rowsF gap takes next (l.take i) = st at *
  obtain ⟨acc, p⟩ := st
  simp only at hacc hS
  obtain ⟨n, hn0⟩ : ∃ n, takes (plainF (sx, sy)) = n := ⟨_, rfl⟩
  (repeat' (first|((first|refine wx1 ?_|refine wx2 ?_ ?_<;>intro hp|refine s_end hk ?_)<;>(clear hk a;intro a hk))|((first|refine wx3 ?_;intro w b|refine wx4 ?_;intro w|refine wx5 ?_;intro w v);clear hk hS a;intro hS a hk)|refine wx0 ?_|fail))
  refine sg hk (g_callO hk (hf := by kernel_rfl) (hc := plain6_any sx sy _) (h := ?_));clear hk a;rintro _ w ⟨rfl, hS1⟩ a hk;replace hS := hS.call0 hS1;clear hS1
  (repeat' (first|((first|refine wx1 ?_|refine wx2 ?_ ?_<;>intro hp|refine s_end hk ?_)<;>(clear hk a;intro a hk))|((first|refine wx3 ?_;intro w b|refine wx4 ?_;intro w|refine wx5 ?_;intro w v);clear hk hS a;intro hS a hk)|refine wx0 ?_|fail))
  refine sg hk (g_callvO (first := []) (cap := ct) hk (hf := hf) (hc := ht (leastF sx, leastF sy) _ hS.frz) (h := ?_));clear hk a;rintro _ w ⟨rfl, hS1⟩ a hk;replace hS := hS.call0 hS1;clear hS1
  rw [show takes (leastF sx, leastF sy) = n from hn0] at hk
  by_cases h0 : 0 < i
  ·have h0' : (i : Int) > 0 := by omega
   (repeat' (first|((first|refine wx1 ?_|refine wx2 ?_ ?_<;>intro hp|refine s_end hk ?_)<;>(clear hk a;intro a hk))|((first|refine wx3 ?_;intro w b|refine wx4 ?_;intro w|refine wx5 ?_;intro w v);clear hk hS a;intro hS a hk)|refine wx0 ?_|fail))
   refine sg hk (g_callvO (first := []) (cap := cn) hk (hf := hg) (hc := hn i bp p n _ (by omega) hS.frz (hS.rd (A := pts bp (penC p) 169) atx)) (h := ?_));clear hk a;rintro _ w ⟨rfl, hS1⟩ a hk;replace hS := hS.call0 hS1;clear hS1
   cases hb : next i p n
   ·have hst := rowStep_f (takes := takes) (next := next) (acc := acc) (p := p) (s := (sx, sy)) (by rw [hacc, hn0, hb];simp)
    rw [hb] at hk
    (repeat' (first|((first|refine wx1 ?_|refine wx2 ?_ ?_<;>intro hp|refine s_end hk ?_)<;>(clear hk a;intro a hk))|((first|refine wx3 ?_;intro w b|refine wx4 ?_;intro w|refine wx5 ?_;intro w v);clear hk hS a;intro hS a hk)|refine wx0 ?_|fail))
    refine sg hk (g_callO hk (hf := by kernel_rfl) (hc := put6_any bp (p) (leastF sx) (leastF sy) n (hS.sub (.cons atx sbx))) (h := ?_));clear hk hS a;rintro _ w ⟨rfl, hS⟩ a hk
    refine sg hk (g_bsT (xs := [((p).1, (p).2.1)]) (m := 0) hk hS ?_ (hT := eT rfl) (hE := zT rfl) (hz := oT rfl));clear hk hS a;intro w v47 hS a hk
    refine sg hk (g_appD hk hS ?_ (hT := eT rfl) (hTx := eT rfl) (hE := zT rfl) (hz := oT rfl) (hzs := rfl) (hby := bT rfl) (hbytes := (by simp only [List.length_cons, List.length_nil];omega)) (h63 := (by simp only [List.length_cons, List.length_nil, maxLen];omega)));clear hk hS a;intro w v hS a hk
    rename Value => vn
    obtain ⟨aovn, cvn, hshp, _⟩ := (OwT.rd (hS.rd (A := OwT 143 _ vn) atx)).shape;subst hshp
    have hl1 : (acc ++ [((p).1, (p).2.1)]).length = i + 1 := by rw [List.length_append, hacc];rfl
    rw [hl1] at hS hk
    (repeat' (first|((first|refine wx1 ?_|refine wx2 ?_ ?_<;>intro hp|refine s_end hk ?_)<;>(clear hk a;intro a hk))|((first|refine wx3 ?_;intro w b|refine wx4 ?_;intro w|refine wx5 ?_;intro w v);clear hk hS a;intro hS a hk)|refine wx0 ?_|fail))
    refine ⟨hil, (aovn, cvn), hk.sd, ?_, trivial⟩
    simp only
    rw [hsn, hst, hn0]
    exact hS.sub (.cons atx (.cons atx (.cons atx sbx)))
   ·have hst := rowStep_t (takes := takes) (next := next) (acc := acc) (p := p) (s := (sx, sy)) (by rw [hacc, hn0, hb];exact ⟨h0, rfl⟩)
    rw [hb] at hk
    (repeat' (first|((first|refine wx1 ?_|refine wx2 ?_ ?_<;>intro hp|refine s_end hk ?_)<;>(clear hk a;intro a hk))|((first|refine wx3 ?_;intro w b|refine wx4 ?_;intro w|refine wx5 ?_;intro w v);clear hk hS a;intro hS a hk)|refine wx0 ?_|fail))
    refine sg hk (g_callO hk (hf := by kernel_rfl) (hc := row6_any bp p (hS.sub (.cons atx sbx))) (h := ?_));clear hk hS a;rintro vr w hS a hk
    (repeat' (first|((first|refine wx1 ?_|refine wx2 ?_ ?_<;>intro hp|refine s_end hk ?_)<;>(clear hk a;intro a hk))|((first|refine wx3 ?_;intro w b|refine wx4 ?_;intro w|refine wx5 ?_;intro w v);clear hk hS a;intro hS a hk)|refine wx0 ?_|fail))
    refine sg hk (g_callO hk (hf := by kernel_rfl) (hc := put6_any bp (penRow p) (leastF sx) (leastF sy) n (hS.sub (.cons atx sbx))) (h := ?_));clear hk hS a;rintro _ w ⟨rfl, hS⟩ a hk
    refine sg hk (g_bsT (xs := [((penRow p).1, (penRow p).2.1)]) (m := 0) hk hS ?_ (hT := eT rfl) (hE := zT rfl) (hz := oT rfl));clear hk hS a;intro w v47 hS a hk
    refine sg hk (g_appD hk hS ?_ (hT := eT rfl) (hTx := eT rfl) (hE := zT rfl) (hz := oT rfl) (hzs := rfl) (hby := bT rfl) (hbytes := (by simp only [List.length_cons, List.length_nil];omega)) (h63 := (by simp only [List.length_cons, List.length_nil, maxLen];omega)));clear hk hS a;intro w v hS a hk
    rename Value => vn
    obtain ⟨aovn, cvn, hshp, _⟩ := (OwT.rd (hS.rd (A := OwT 143 _ vn) atx)).shape;subst hshp
    have hl1 : (acc ++ [((penRow p).1, (penRow p).2.1)]).length = i + 1 := by rw [List.length_append, hacc];rfl
    rw [hl1] at hS hk
    (repeat' (first|((first|refine wx1 ?_|refine wx2 ?_ ?_<;>intro hp|refine s_end hk ?_)<;>(clear hk a;intro a hk))|((first|refine wx3 ?_;intro w b|refine wx4 ?_;intro w|refine wx5 ?_;intro w v);clear hk hS a;intro hS a hk)|refine wx0 ?_|fail))
    refine ⟨hil, (aovn, cvn), hk.sd, ?_, trivial⟩
    simp only
    rw [hsn, hst, hn0]
    exact hS.sub (.cons atx (.cons atx (.cons atx sbx)))
  ·have h0' : ¬ (i : Int) > 0 := by omega
   have hst := rowStep_f (takes := takes) (next := next) (acc := acc) (p := p) (s := (sx, sy)) (by rw [hacc];exact fun h => h0 h.1)
   (repeat' (first|((first|refine wx1 ?_|refine wx2 ?_ ?_<;>intro hp|refine s_end hk ?_)<;>(clear hk a;intro a hk))|((first|refine wx3 ?_;intro w b|refine wx4 ?_;intro w|refine wx5 ?_;intro w v);clear hk hS a;intro hS a hk)|refine wx0 ?_|fail))
   refine sg hk (g_callO hk (hf := by kernel_rfl) (hc := put6_any bp (p) (leastF sx) (leastF sy) n (hS.sub (.cons atx sbx))) (h := ?_));clear hk hS a;rintro _ w ⟨rfl, hS⟩ a hk
   refine sg hk (g_bsT (xs := [((p).1, (p).2.1)]) (m := 0) hk hS ?_ (hT := eT rfl) (hE := zT rfl) (hz := oT rfl));clear hk hS a;intro w v47 hS a hk
   refine sg hk (g_appD hk hS ?_ (hT := eT rfl) (hTx := eT rfl) (hE := zT rfl) (hz := oT rfl) (hzs := rfl) (hby := bT rfl) (hbytes := (by simp only [List.length_cons, List.length_nil];omega)) (h63 := (by simp only [List.length_cons, List.length_nil, maxLen];omega)));clear hk hS a;intro w v hS a hk
   rename Value => vn
   obtain ⟨aovn, cvn, hshp, _⟩ := (OwT.rd (hS.rd (A := OwT 143 _ vn) atx)).shape;subst hshp
   have hl1 : (acc ++ [((p).1, (p).2.1)]).length = i + 1 := by rw [List.length_append, hacc];rfl
   rw [hl1] at hS hk
   (repeat' (first|((first|refine wx1 ?_|refine wx2 ?_ ?_<;>intro hp|refine s_end hk ?_)<;>(clear hk a;intro a hk))|((first|refine wx3 ?_;intro w b|refine wx4 ?_;intro w|refine wx5 ?_;intro w v);clear hk hS a;intro hS a hk)|refine wx0 ?_|fail))
   refine ⟨hil, (aovn, cvn), hk.sd, ?_, trivial⟩
   simp only
   rw [hsn, hst, hn0]
   exact hS.sub (.cons atx (.cons atx (.cons atx sbx)))
 ·have hii : i = l.length := by omega
  subst hii
  rw [List.take_length] at hS
  (repeat' (first|((first|refine wx1 ?_|refine wx2 ?_ ?_<;>intro hp|refine s_end hk ?_)<;>(clear hk a;intro a hk))|((first|refine wx3 ?_;intro w b|refine wx4 ?_;intro w|refine wx5 ?_;intro w v);clear hk hS a;intro hS a hk)|refine wx0 ?_|fail))
  refine sg hk (g_callO hk (hf := by kernel_rfl) (hc := whole6_any bp _ (hS.sub (.cons atx sbx))) (h := ?_));clear hk hS a;rintro _ w ⟨rfl, hS⟩ a hk
  (repeat' (first|((first|refine wx1 ?_|refine wx2 ?_ ?_<;>intro hp|refine s_end hk ?_)<;>(clear hk a;intro a hk))|((first|refine wx3 ?_;intro w b|refine wx4 ?_;intro w|refine wx5 ?_;intro w v);clear hk hS a;intro hS a hk)|refine wx0 ?_|fail))
  exact done2R hk rfl (.tmp rfl) (.str hS (hT := aT rfl) (hs := zT rfl)) (h := ⟨ao, co, rfl, hS.sub (.cons atx sbx)⟩)
theorem own6_any (x y : Int) (w0 : World) : Calls Tryz.prog 114 #[.agg #[.int .i64 x, .int .i64 y]] w0 (Ret fun v w => v = .int .i64 x ∧ St w0 [] w) := by
 refine enter Tryz.func114 rfl Tryz.ntmps114 rfl (fun a hk => ?_);have hS := St.refl w0
 (repeat' (first|((first|refine wx1 ?_|refine wx2 ?_ ?_<;>intro hp|refine s_end hk ?_)<;>(clear hk a;intro a hk))|((first|refine wx3 ?_;intro w b|refine wx4 ?_;intro w|refine wx5 ?_;intro w v);clear hk hS a;intro hS a hk)|refine wx0 ?_|fail))
 exact done1 hk (h := ⟨rfl, hS.nil⟩)
theorem stk1_any (i n : Int) (b : Nat) (w0 : World) : Calls Tryz.prog 120 #[.int .i64 i, pA b, .int .i64 n] w0 (Ret fun v w => v = .bool true ∧ St w0 [] w) := by
 refine enter Tryz.func120 rfl Tryz.ntmps120 rfl (fun a hk => ?_);have hS := St.refl w0
 (repeat' (first|((first|refine wx1 ?_|refine wx2 ?_ ?_<;>intro hp|refine s_end hk ?_)<;>(clear hk a;intro a hk))|((first|refine wx3 ?_;intro w b|refine wx4 ?_;intro w|refine wx5 ?_;intro w v);clear hk hS a;intro hS a hk)|refine wx0 ?_|fail))
 exact done1 hk (h := ⟨rfl, hS.nil⟩)
theorem wrp1_any (i n wd : Int) (b bw : Nat) (p : Pen) (w0 : World) (hp : (pts b (penC p) 169).rd w0) (hw : (pts bw [.int .i64 wd] 3).rd w0) : Calls Tryz.prog 115 #[.int .i64 i, pA b, .int .i64 n, pA bw] w0 (Ret fun v w => v = .bool (decide (addF p.1 n > wd)) ∧ St w0 [] w) := by
 obtain ⟨x, y, h, gap, wide, any⟩ := p
 simp only [penC] at hp ⊢
 by_cases hd1 : addF x n > wd
 ·rw [decide_eq_true hd1]
  refine enter Tryz.func115 rfl Tryz.ntmps115 rfl (fun a hk => ?_);have hS := St.refl w0
  (repeat' (first|((first|refine wx1 ?_|refine wx2 ?_ ?_<;>intro hp|refine s_end hk ?_)<;>(clear hk a;intro a hk))|((first|refine wx3 ?_;intro w b|refine wx4 ?_;intro w|refine wx5 ?_;intro w v);clear hk hS a;intro hS a hk)|refine wx0 ?_|fail))
  refine wp_drawn 8 mixed (by kernel_rfl) hk hS ?_;clear hk hS a
  (repeat' (first|(show ObxE _ _ _ _ _ _ _ _ _ (_::_) _ _ _;first|refine ox1 ?_|refine ox2 ?_ ?_<;>intro hp)|fail))
  refine' obe_val (fun us a w hk hd hS => ?_) ?_;rotate_left;focus (have hk := Kn.vw hk vwx;exact g_callO hk (hf := by kernel_rfl) (hc := add_any x n _) (h := fun _ _ h => h))
  (repeat' (first|(show ObxE _ _ _ _ _ _ _ _ _ (_::_) _ _ _;first|refine ox1 ?_|refine ox2 ?_ ?_<;>intro hp)|fail))
  refine obe_nil ⟨rfl, ?_⟩;intro us a w hk hS
  (repeat' (first|((first|refine wx1 ?_|refine wx2 ?_ ?_<;>intro hp|refine s_end hk ?_)<;>(clear hk a;intro a hk))|((first|refine wx3 ?_;intro w b|refine wx4 ?_;intro w|refine wx5 ?_;intro w v);clear hk hS a;intro hS a hk)|refine wx0 ?_|fail))
  exact done1 hk (h := ⟨rfl, hS.nil⟩)
 ·rw [decide_eq_false hd1]
  refine enter Tryz.func115 rfl Tryz.ntmps115 rfl (fun a hk => ?_);have hS := St.refl w0
  (repeat' (first|((first|refine wx1 ?_|refine wx2 ?_ ?_<;>intro hp|refine s_end hk ?_)<;>(clear hk a;intro a hk))|((first|refine wx3 ?_;intro w b|refine wx4 ?_;intro w|refine wx5 ?_;intro w v);clear hk hS a;intro hS a hk)|refine wx0 ?_|fail))
  refine wp_drawn 8 mixed (by kernel_rfl) hk hS ?_;clear hk hS a
  (repeat' (first|(show ObxE _ _ _ _ _ _ _ _ _ (_::_) _ _ _;first|refine ox1 ?_|refine ox2 ?_ ?_<;>intro hp)|fail))
  refine' obe_val (fun us a w hk hd hS => ?_) ?_;rotate_left;focus (have hk := Kn.vw hk vwx;exact g_callO hk (hf := by kernel_rfl) (hc := add_any x n _) (h := fun _ _ h => h))
  (repeat' (first|(show ObxE _ _ _ _ _ _ _ _ _ (_::_) _ _ _;first|refine ox1 ?_|refine ox2 ?_ ?_<;>intro hp)|fail))
  refine obe_nil ⟨rfl, ?_⟩;intro us a w hk hS
  (repeat' (first|((first|refine wx1 ?_|refine wx2 ?_ ?_<;>intro hp|refine s_end hk ?_)<;>(clear hk a;intro a hk))|((first|refine wx3 ?_;intro w b|refine wx4 ?_;intro w|refine wx5 ?_;intro w v);clear hk hS a;intro hS a hk)|refine wx0 ?_|fail))
  exact done1 hk (h := ⟨rfl, hS.nil⟩)
theorem grd1_any (sx sy col : Int) (bc : Nat) (w0 : World) (hw : (pts bc [.int .i64 col] 3).rd w0) : Calls Tryz.prog 118 #[.agg #[.int .i64 sx, .int .i64 sy], pA bc] w0 (Ret fun v w => v = .int .i64 col ∧ St w0 [] w) := by
 refine enter Tryz.func118 rfl Tryz.ntmps118 rfl (fun a hk => ?_);have hS := St.refl w0
 (repeat' (first|((first|refine wx1 ?_|refine wx2 ?_ ?_<;>intro hp|refine s_end hk ?_)<;>(clear hk a;intro a hk))|((first|refine wx3 ?_;intro w b|refine wx4 ?_;intro w|refine wx5 ?_;intro w v);clear hk hS a;intro hS a hk)|refine wx0 ?_|fail))
 exact done1 hk (h := ⟨rfl, hS.nil⟩)
theorem grd2_any (i : Nat) (n cols : Int) (hc : 1 ≤ cols) (b bc : Nat) (w0 : World) (hw : (pts bc [.int .i64 cols] 3).rd w0) : Calls Tryz.prog 119 #[.int .i64 (i : Int), pA b, .int .i64 n, pA bc] w0 (Ret fun v w => v = .bool (decide ((i : Int).tmod cols = 0)) ∧ St w0 [] w) := by
 refine enter Tryz.func119 rfl Tryz.ntmps119 rfl (fun a hk => ?_);have hS := St.refl w0
 (repeat' (first|((first|refine wx1 ?_|refine wx2 ?_ ?_<;>intro hp|refine s_end hk ?_)<;>(clear hk a;intro a hk))|((first|refine wx3 ?_;intro w b|refine wx4 ?_;intro w|refine wx5 ?_;intro w v);clear hk hS a;intro hS a hk)|refine wx0 ?_|fail))
 refine sg hk (g_rem hk ?_ (hq := by omega));clear hk a;intro a hk
 by_cases hd1 : (i : Int).tmod cols = 0
 ·rw [decide_eq_true hd1]
  (repeat' (first|((first|refine wx1 ?_|refine wx2 ?_ ?_<;>intro hp|refine s_end hk ?_)<;>(clear hk a;intro a hk))|((first|refine wx3 ?_;intro w b|refine wx4 ?_;intro w|refine wx5 ?_;intro w v);clear hk hS a;intro hS a hk)|refine wx0 ?_|fail))
  exact done1 hk (h := ⟨rfl, hS.nil⟩)
 ·rw [decide_eq_false hd1]
  (repeat' (first|((first|refine wx1 ?_|refine wx2 ?_ ?_<;>intro hp|refine s_end hk ?_)<;>(clear hk a;intro a hk))|((first|refine wx3 ?_;intro w b|refine wx4 ?_;intro w|refine wx5 ?_;intro w v);clear hk hS a;intro hS a hk)|refine wx0 ?_|fail))
  exact done1 hk (h := ⟨rfl, hS.nil⟩)
abbrev flowR (r : List (Int × Int) × Pen) (n : Nat) (w0 : World) (v : Value) (w : World) : Prop := ∃ ao c, v = .tuple #[.slice ao n c, szV (penAll r.2)] ∧ St w0 [OwT 143 r.1 (.slice ao n c)] w
def stackF (gap : Int) (l : List (Int × Int)) : List (Int × Int) × Pen := rowsF gap (·.1) (fun _ _ _ => true) l
def wrapF (width gap : Int) (l : List (Int × Int)) : List (Int × Int) × Pen := rowsF gap (·.1) (fun _ p n => decide (addF p.1 n > leastF width)) l
def colsF (cols : Int) : Int := max 1 (min cols 64)
def gridF (cols col gap : Int) (l : List (Int × Int)) : List (Int × Int) × Pen := rowsF gap (fun _ => leastF col) (fun i _ _ => decide (i.tmod (colsF cols) = 0)) l
theorem stack6_any (gap : Int) (l : List (Int × Int)) (v : Value) (w0 : World) (hv : SlT l v w0) (hl : l.length ≤ 1000) : Calls Tryz.prog 103 #[.int .i64 gap, v] w0 (Ret (flowR (stackF gap l) l.length w0)) := by
 refine enter Tryz.func103 rfl Tryz.ntmps103 rfl (fun a hk => ?_);have hS := St.refl w0
 (repeat' (first|((first|refine wx1 ?_|refine wx2 ?_ ?_<;>intro hp|refine s_end hk ?_)<;>(clear hk a;intro a hk))|((first|refine wx3 ?_;intro w b|refine wx4 ?_;intro w|refine wx5 ?_;intro w v);clear hk hS a;intro hS a hk)|refine wx0 ?_|fail))
 refine sg hk (g_callO hk (hf := by kernel_rfl) (hc := rows6_any gap (·.1) (fun _ _ _ => true) 114 120 [] [] l v _ (hS.rdT hv) hl (by kernel_rfl) (by kernel_rfl) (fun s w _ => own6_any s.1 s.2 w) (fun i b p n w _ _ _ => stk1_any i n b w)) (h := ?_));clear hk a;rintro vr w ⟨ao, c, rfl, hS1⟩ a hk;replace hS := hS.call hS1;clear hS1
 (repeat' (first|((first|refine wx1 ?_|refine wx2 ?_ ?_<;>intro hp|refine s_end hk ?_)<;>(clear hk a;intro a hk))|((first|refine wx3 ?_;intro w b|refine wx4 ?_;intro w|refine wx5 ?_;intro w v);clear hk hS a;intro hS a hk)|refine wx0 ?_|fail))
 exact done2R hk rfl (.tmp rfl) (.str hS (hT := aT rfl) (hs := zT rfl)) (h := ⟨ao, c, rfl, hS.sub (.cons atx sbx)⟩)
theorem wrap6_any (width gap : Int) (l : List (Int × Int)) (v : Value) (w0 : World) (hv : SlT l v w0) (hl : l.length ≤ 1000) : Calls Tryz.prog 100 #[.int .i64 width, .int .i64 gap, v] w0 (Ret (flowR (wrapF width gap l) l.length w0)) := by
 refine enter Tryz.func100 rfl Tryz.ntmps100 rfl (fun a hk => ?_);have hS := St.refl w0
 refine wpIn_seq ?_;refine wpIn_region_lit ?_
 refine st_box hk hS ?_;clear hk hS a;intro w b3 hS a hk
 (repeat' (first|((first|refine wx1 ?_|refine wx2 ?_ ?_<;>intro hp|refine s_end hk ?_)<;>(clear hk a;intro a hk))|((first|refine wx3 ?_;intro w b|refine wx4 ?_;intro w|refine wx5 ?_;intro w v);clear hk hS a;intro hS a hk)|refine wx0 ?_|fail))
 refine sg hk (g_callO hk (hf := by kernel_rfl) (hc := least_any width _) (h := ?_));clear hk a;rintro _ w ⟨rfl, hS1⟩ a hk;replace hS := hS.call0 hS1;clear hS1
 (repeat' (first|((first|refine wx1 ?_|refine wx2 ?_ ?_<;>intro hp|refine s_end hk ?_)<;>(clear hk a;intro a hk))|((first|refine wx3 ?_;intro w b|refine wx4 ?_;intro w|refine wx5 ?_;intro w v);clear hk hS a;intro hS a hk)|refine wx0 ?_|fail))
 have hb3 : (pts b3 [.int .i64 (leastF width)] 3).rd w := hS.rd (A := pts b3 [.int .i64 (leastF width)] 3) atx
 refine sg hk (g_callO hk (hf := by kernel_rfl) (hc := rows6_any gap (·.1) (fun _ p n => decide (addF p.1 n > leastF width)) 114 115 [] [pA b3] l v _ (hS.rdT hv) hl (by kernel_rfl) (by kernel_rfl) (fun s w _ => own6_any s.1 s.2 w) (fun i b p n w _ hf hp => wrp1_any i n (leastF width) b b3 p w hp (pts.frz hb3 hf))) (h := ?_));clear hk a;rintro vr w ⟨ao, c, rfl, hS1⟩ a hk;replace hS := hS.call hS1;clear hS1
 clear hb3
 (repeat' (first|((first|refine wx1 ?_|refine wx2 ?_ ?_<;>intro hp|refine s_end hk ?_)<;>(clear hk a;intro a hk))|((first|refine wx3 ?_;intro w b|refine wx4 ?_;intro w|refine wx5 ?_;intro w v);clear hk hS a;intro hS a hk)|refine wx0 ?_|fail))
 exact done2R hk rfl (.tmp rfl) (.str hS (hT := aT rfl) (hs := zT rfl)) (h := ⟨ao, c, rfl, hS.sub (.cons atx sbx)⟩)
theorem grid6_any (cols col gap : Int) (l : List (Int × Int)) (v : Value) (w0 : World) (hv : SlT l v w0) (hl : l.length ≤ 1000) : Calls Tryz.prog 102 #[.int .i64 cols, .int .i64 col, .int .i64 gap, v] w0 (Ret (flowR (gridF cols col gap l) l.length w0)) := by
 refine enter Tryz.func102 rfl Tryz.ntmps102 rfl (fun a hk => ?_);have hS := St.refl w0
 refine wpIn_seq ?_;refine wpIn_region_lit ?_
 refine st_box hk hS ?_;clear hk hS a;intro w b4 hS a hk
 refine st_box hk hS ?_;clear hk hS a;intro w b5 hS a hk
 (repeat' (first|((first|refine wx1 ?_|refine wx2 ?_ ?_<;>intro hp|refine s_end hk ?_)<;>(clear hk a;intro a hk))|((first|refine wx3 ?_;intro w b|refine wx4 ?_;intro w|refine wx5 ?_;intro w v);clear hk hS a;intro hS a hk)|refine wx0 ?_|fail))
 refine wp_drawn 4 mixed (by kernel_rfl) hk hS ?_;clear hk hS a
 (repeat' (first|(show ObxE _ _ _ _ _ _ _ _ _ (_::_) _ _ _;first|refine ox1 ?_|refine ox2 ?_ ?_<;>intro hp)|fail))
 refine' obe_val (fun us a w hk hd hS => ?_) ?_;rotate_left;focus (have hk := Kn.vw hk vwx;exact g_callO hk (hf := by kernel_rfl) (hc := clip5_any cols 1 64 _) (h := fun _ _ h => h))
 (repeat' (first|(show ObxE _ _ _ _ _ _ _ _ _ (_::_) _ _ _;first|refine ox1 ?_|refine ox2 ?_ ?_<;>intro hp)|fail))
 refine' obe_val (fun us a w hk hd hS => ?_) ?_;rotate_left;focus (have hk := Kn.vw hk vwx;exact g_callO hk (hf := by kernel_rfl) (hc := least_any col _) (h := fun _ _ h => h))
 refine obe_nil ⟨rfl, ?_⟩;intro us a w hk hS
 (repeat' (first|((first|refine wx1 ?_|refine wx2 ?_ ?_<;>intro hp|refine s_end hk ?_)<;>(clear hk a;intro a hk))|((first|refine wx3 ?_;intro w b|refine wx4 ?_;intro w|refine wx5 ?_;intro w v);clear hk hS a;intro hS a hk)|refine wx0 ?_|fail))
 have hb4 : (pts b4 [.int .i64 (colsF cols)] 3).rd w := hS.rd (A := pts b4 [.int .i64 (colsF cols)] 3) atx
 have hb5 : (pts b5 [.int .i64 (leastF col)] 3).rd w := hS.rd (A := pts b5 [.int .i64 (leastF col)] 3) atx
 refine sg hk (g_callO hk (hf := by kernel_rfl) (hc := rows6_any gap (fun _ => leastF col) (fun i _ _ => decide (i.tmod (colsF cols) = 0)) 118 119 [pA b5] [pA b4] l v _ (hS.rdT hv) hl (by kernel_rfl) (by kernel_rfl) (fun s w hf => grd1_any s.1 s.2 _ b5 w (pts.frz hb5 hf)) (fun i b p n w _ hf hp => grd2_any i n (colsF cols) (by unfold colsF;omega) b b4 w (pts.frz hb4 hf))) (h := ?_));clear hk a;rintro vr w ⟨ao, c, rfl, hS1⟩ a hk;replace hS := hS.call hS1;clear hS1
 clear hb4 hb5
 (repeat' (first|((first|refine wx1 ?_|refine wx2 ?_ ?_<;>intro hp|refine s_end hk ?_)<;>(clear hk a;intro a hk))|((first|refine wx3 ?_;intro w b|refine wx4 ?_;intro w|refine wx5 ?_;intro w v);clear hk hS a;intro hS a hk)|refine wx0 ?_|fail))
 exact done2R hk rfl (.tmp rfl) (.str hS (hT := aT rfl) (hs := zT rfl)) (h := ⟨ao, c, rfl, hS.sub (.cons atx sbx)⟩)
end Go.Proofs.YtbpkddpkcnlmhaaGreat
