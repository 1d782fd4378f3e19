/- Layer 17 (layout): where all lies. Layer 17 (layout): each node has its place, none of them below nought or beyond the end. Layer 23: how far those that stayed lie from where they were. Layer 23's reference; what is left on the way. Layer 23: what is moved. Layer 23: moved by its shift each lies where it was: the plain law. The top (flips): where the nodes lie, and what moves them back, in plain words. Layer 17 (layout): where all of a document lies. -/
import Derived.Test.YtbpkddpkcnlmhaaGreatF17
import Derived.Test.YtbpkddpkcnlmhaaGreatF15
import Derived.Test.YtbpkddpkcnlmhaaGreatF16
import Derived.Test.YtbpkddpkcnlmhaaGreatF10
import Derived.Test.YtbpkddpkcnlmhaaGreatF07
import Derived.Test.YtbpkddpkcnlmhaaGreatF11
import Derived.Test.YtbpkddpkcnlmhaaGreatF14
set_option linter.all false
namespace Go.Proofs.YtbpkddpkcnlmhaaGreat
open Go.RowKit
set_option maxRecDepth 100000
attribute [local irreducible] Go.Code.wpIn Go.wpListIn Go.Calls Gives Go.Exit.then Go.Exit.inBlock Done ObxE
mutual
def plcF : STree → Int → Int → Int → List Ent
 | .mk id k tag text cl at_ st kids, x, y, w => (id, x, y, (sizF (.mk id k tag text cl at_ st kids) w).1, (sizF (.mk id k tag text cl at_ st kids) w).2) :: (if k = 1 then [] else plcL st (insF6 st w) x y kids (ptsF st (insF6 st w) kids))
def plcL (st : List (ByteArray × Int)) (n x y : Int) : List STree → List (Int × Int) → List Ent
 | [], _ => []
 | t :: ts, ps => plcF t (sumF [x, stI st padS, (ps.getD 0 (0, 0)).1]) (sumF [y, stI st padS, (ps.getD 0 (0, 0)).2]) (givF st t n) ++ plcL st n x y ts (ps.drop 1)
end
theorem plcL_snoc (st : List (ByteArray × Int)) (n x y : Int) (t : STree) : ∀ (l : List STree) (ps : List (Int × Int)), plcL st n x y (l ++ [t]) ps = plcL st n x y l ps ++ plcF t (sumF [x, stI st padS, (ps.getD l.length (0, 0)).1]) (sumF [y, stI st padS, (ps.getD l.length (0, 0)).2]) (givF st t n)
 | [], ps => by simp only [List.nil_append, plcL, List.append_nil, List.length_nil]
 | u :: l, ps => by
  have e : (ps.drop 1).getD l.length (0, 0) = ps.getD (u :: l).length (0, 0) := by cases ps <;> simp
  simp only [List.cons_append, plcL, plcL_snoc st n x y t l, e, List.append_assoc]
theorem plcL_take (st : List (ByteArray × Int)) (n x y : Int) (l : List STree) (ps : List (Int × Int)) (i : Nat) : (plcL st n x y (l.take i) ps).length ≤ (plcL st n x y l ps).length := by
 induction l generalizing ps i with
 | nil => simp [plcL]
 | cons t ts ih =>
  cases i with
  | zero => simp [plcL]
  | succ i =>
   simp only [List.take_succ_cons, plcL, List.length_append]
   have := ih (ps.drop 1) i
   omega
abbrev entL (bl : Nat) (acc : List Ent) (y : Option Addr × Nat) : List HP := [pts bl [.slice y.1 acc.length y.2] 38, OwT 90 acc (.slice y.1 acc.length y.2)]
def entH (bl : Nat) (acc : List Ent) : HP := bagH (fun y : Option Addr × Nat => entL bl acc y) (fun _ => True)
section
variable {B : Bs} {w : World} {L L' : List HP}
theorem St.ent {bl : Nat} {acc : List Ent} (hS : St B L w) (hat : At (entH bl acc) L L') : ∃ a c, St B (entL bl acc (a, c) ++ L') w := by
 obtain ⟨⟨a, c⟩, -, h⟩ := St.bag hS hat
 exact ⟨a, c, h⟩
theorem entH.of {bl : Nat} {acc : List Ent} {y : Option Addr × Nat} (hS : St B (entL bl acc y ++ L) w) : St B (entH bl acc :: L) w := bagH.of (A := fun y : Option Addr × Nat => entL bl acc y) (x := y) hS trivial
end
set_option maxHeartbeats 4000000 in
theorem ofc_any {B : Bs} {w : World} {L : List HP} (bl : Nat) (acc : List Ent) (id x y wd ht : Int) (hl : acc.length ≤ 10000) (hS : St B (entH bl acc :: L) w) :
  Calls Tryz.prog 54 #[.int .i64 id, .agg #[.int .i64 x, .int .i64 y, .int .i64 wd, .int .i64 ht], pA bl] w (Ret fun _ w' => St B (entH bl (acc ++ [(id, x, y, wd, ht)]) :: L) w') := by
 obtain ⟨ao, co, hS1⟩ := hS.ent (bl := bl) (acc := acc) .here
 clear hS
 have hS := hS1
 clear hS1
 simp only [entL, List.cons_append, List.nil_append] at hS
 refine enter Tryz.func54 rfl Tryz.ntmps54 rfl (fun a hk => ?_)
 (repeat' (first|((first|refine wx1 ?_|refine wx2 ?_ ?_<;>intro hp|refine s_end hk ?_)<;>(clear hk a;intro a hk))|((first|refine wx3 ?_;intro w b|refine wx4 ?_;intro w|refine wx5 ?_;intro w v);clear hk hS a;intro hS a hk)|refine wx0 ?_|fail))
 refine sg hk (g_bsT (xs := [((id, x, y, wd, ht) : Ent)]) (m := 0) hk hS ?_ (hT := eT rfl) (hE := zT rfl) (hz := oT rfl));clear hk hS a;intro w v9 hS a hk
 refine sg hk (g_appD hk hS ?_ (hT := eT rfl) (hTx := eT rfl) (hE := zT rfl) (hz := oT rfl) (hzs := rfl) (hby := bT rfl) (hbytes := (by simp only [List.length_cons, List.length_nil];omega)) (h63 := (by simp only [List.length_cons, List.length_nil, maxLen];omega)));clear hk hS a;intro w v hS a hk
 rename Value => vn
 obtain ⟨aovn, cvn, hshp, _⟩ := (OwT.rd (hS.rd (A := OwT 90 _ vn) atx)).shape;subst hshp
 (repeat' (first|((first|refine wx1 ?_|refine wx2 ?_ ?_<;>intro hp|refine s_end hk ?_)<;>(clear hk a;intro a hk))|((first|refine wx3 ?_;intro w b|refine wx4 ?_;intro w|refine wx5 ?_;intro w v);clear hk hS a;intro hS a hk)|refine wx0 ?_|fail))
 exact done0n hk (h := entH.of (y := (aovn, cvn)) (hS.sub (.cons atx (.cons atx sbx))))
set_option maxHeartbeats 16000000 in
theorem plc6_any {bl : Nat} : ∀ (m : Nat) (t : STree) (h : SnH) (x y wd : Int) (acc : List Ent) (B : Bs) (L : List HP) (w : World), SizeOf.sizeOf t < m → SFits t → SrR B.g t h → acc.length + (plcF t x y wd).length ≤ 1000 → St B (entH bl acc :: L) w →
  Calls Tryz.prog 53 #[snV h, .int .i64 x, .int .i64 y, .int .i64 wd, .func (.func 54) #[] #[pA bl]] w (Ret fun _ w' => St B (entH bl (acc ++ plcF t x y wd) :: L) w')
 | 0, _, _, _, _, _, _, _, _, _, hn, _, _, _, _ => by omega
 | m + 1, t, h, x, y, wd, acc, B, L, w, hn, hf, hr, hln, hS => by
  have ih := plc6_any (bl := bl) m
  have hfk : ∀ u ∈ t.kids, SFits u := fun u hu => hf.kid hu
  have hr0 := hr
  obtain ⟨id, k, tag, text, cl, al, sl, kids, a1, m1, a2, m2, a3, m3, a4, m4, H, rfl, rfl, c1, c2, c3, c4, hF⟩ := hr.split
  have hHk : H.length = kids.length := hF.1
  have hkl : kids.length ≤ 1000 := by cases hf with | mk _ _ _ h4 _ => exact h4
  have hfk : ∀ u ∈ kids, SFits u := hfk
  show Calls Tryz.prog 53 #[.agg #[.int .i64 id, .int .i64 k, .string tag, .string text, .slice a1 cl.length m1, .slice a2 al.length m2, .slice a3 sl.length m3, .slice a4 H.length m4], .int .i64 x, .int .i64 y, .int .i64 wd, .func (.func 54) #[] #[pA bl]] w _
  by_cases hk1 : k = 1
  ·have hpl : plcF (.mk id k tag text cl al sl kids) x y wd = [(id, x, y, (sizF (.mk id k tag text cl al sl kids) wd).1, (sizF (.mk id k tag text cl al sl kids) wd).2)] := by simp only [plcF, if_pos hk1]
   rw [hpl] at hln ⊢
   simp only [List.length_singleton] at hln
   refine enter Tryz.func53 rfl Tryz.ntmps53 rfl (fun a hk => ?_)
   (repeat' (first|((first|refine wx1 ?_|refine wx2 ?_ ?_<;>intro hp|refine s_end hk ?_)<;>(clear hk a;intro a hk))|((first|refine wx3 ?_;intro w b|refine wx4 ?_;intro w|refine wx5 ?_;intro w v);clear hk hS a;intro hS a hk)|refine wx0 ?_|fail))
   refine sg hk (g_callO hk (hf := by kernel_rfl) (hc := size6_any _ (.mk id k tag text cl al sl kids) (id, k, tag, text, ⟨a1, cl.length, m1⟩, ⟨a2, al.length, m2⟩, ⟨a3, sl.length, m3⟩, ⟨a4, H.length, m4⟩) wd _ (Nat.lt_succ_self _) hf (hS.rdSr hr0)) (h := ?_));clear hk a;rintro _ w ⟨rfl, hS1⟩ a hk;replace hS := hS.call0 hS1;clear hS1
   (repeat' (first|((first|refine wx1 ?_|refine wx2 ?_ ?_<;>intro hp|refine s_end hk ?_)<;>(clear hk a;intro a hk))|((first|refine wx3 ?_;intro w b|refine wx4 ?_;intro w|refine wx5 ?_;intro w v);clear hk hS a;intro hS a hk)|refine wx0 ?_|fail))
   refine sg hk (g_callvO (first := []) (cap := [pA bl]) hk (hf := by kernel_rfl) (hc := ofc_any bl acc id x y _ _ (by omega) (hS.sub (.cons atx sbx))) (h := ?_));clear hk hS a;intro _ w hS a hk
   (repeat' (first|((first|refine wx1 ?_|refine wx2 ?_ ?_<;>intro hp|refine s_end hk ?_)<;>(clear hk a;intro a hk))|((first|refine wx3 ?_;intro w b|refine wx4 ?_;intro w|refine wx5 ?_;intro w v);clear hk hS a;intro hS a hk)|refine wx0 ?_|fail))
   exact done0 hk (h := hS.sub (.cons atx sbx))
  ·have hpl : plcF (.mk id k tag text cl al sl kids) x y wd = (id, x, y, (sizF (.mk id k tag text cl al sl kids) wd).1, (sizF (.mk id k tag text cl al sl kids) wd).2) :: plcL sl (insF6 sl wd) x y kids (ptsF sl (insF6 sl wd) kids) := by simp only [plcF, if_neg hk1]
   have hlt := plcL_take sl (insF6 sl wd) x y kids (ptsF sl (insF6 sl wd) kids)
   have hpt := ptsF_len sl (insF6 sl wd) kids
   rw [hpl] at hln ⊢
   simp only [List.length_cons] at hln
   generalize he : ((id, x, y, (sizF (.mk id k tag text cl al sl kids) wd).1, (sizF (.mk id k tag text cl al sl kids) wd).2) : Ent) = e
   refine enter Tryz.func53 rfl Tryz.ntmps53 rfl (fun a hk => ?_)
   refine wpIn_seq ?_;refine wpIn_region_lit ?_
   refine st_box hk hS ?_;clear hk hS a;intro w b5 hS a hk
   (repeat' (first|((first|refine wx1 ?_|refine wx2 ?_ ?_<;>intro hp|refine s_end hk ?_)<;>(clear hk a;intro a hk))|((first|refine wx3 ?_;intro w b|refine wx4 ?_;intro w|refine wx5 ?_;intro w v);clear hk hS a;intro hS a hk)|refine wx0 ?_|fail))
   refine sg hk (g_callO hk (hf := by kernel_rfl) (hc := size6_any _ (.mk id k tag text cl al sl kids) (id, k, tag, text, ⟨a1, cl.length, m1⟩, ⟨a2, al.length, m2⟩, ⟨a3, sl.length, m3⟩, ⟨a4, H.length, m4⟩) wd _ (Nat.lt_succ_self _) hf (hS.rdSr hr0)) (h := ?_));clear hk a;rintro _ w ⟨rfl, hS1⟩ a hk;replace hS := hS.call0 hS1;clear hS1
   (repeat' (first|((first|refine wx1 ?_|refine wx2 ?_ ?_<;>intro hp|refine s_end hk ?_)<;>(clear hk a;intro a hk))|((first|refine wx3 ?_;intro w b|refine wx4 ?_;intro w|refine wx5 ?_;intro w v);clear hk hS a;intro hS a hk)|refine wx0 ?_|fail))
   refine sg hk (g_callvO (first := []) (cap := [pA bl]) hk (hf := by kernel_rfl) (hc := ofc_any bl acc id x y _ _ (by omega) (hS.sub (.cons atx sbx))) (h := ?_));clear hk hS a;intro _ w hS a hk
   (repeat' (first|((first|refine wx1 ?_|refine wx2 ?_ ?_<;>intro hp|refine s_end hk ?_)<;>(clear hk a;intro a hk))|((first|refine wx3 ?_;intro w b|refine wx4 ?_;intro w|refine wx5 ?_;intro w v);clear hk hS a;intro hS a hk)|refine wx0 ?_|fail))
   refine wp_drawn 5 mixed (by kernel_rfl) hk hS ?_;clear hk hS a
   (repeat' (first|(show ObxE _ _ _ _ _ _ _ _ _ (_::_) _ _ _;first|refine ox1 ?_|refine ox2 ?_ ?_<;>intro hp)|fail))
   refine' obe_val (fun us a w hk hd hS => ?_) ?_;rotate_left;focus (have hk := Kn.vw hk vwx;exact g_callO hk (hf := by kernel_rfl) (hc := inside6_any _ (id, k, tag, text, ⟨a1, cl.length, m1⟩, ⟨a2, al.length, m2⟩, ⟨a3, sl.length, m3⟩, ⟨a4, H.length, m4⟩) wd _ hf (hS.rdSr hr0)) (h := fun _ _ h => h))
   (repeat' (first|(show ObxE _ _ _ _ _ _ _ _ _ (_::_) _ _ _;first|refine ox1 ?_|refine ox2 ?_ ?_<;>intro hp)|fail))
   refine' obe_val (fun us a w hk hd hS => ?_) ?_;rotate_left;focus (have hk := Kn.vw hk vwx;exact g_callO hk (hf := by kernel_rfl) (hc := ask6_any _ (id, k, tag, text, ⟨a1, cl.length, m1⟩, ⟨a2, al.length, m2⟩, ⟨a3, sl.length, m3⟩, ⟨a4, H.length, m4⟩) padS _ hf (hS.rdSr hr0)) (h := fun _ _ h => h))
   refine obe_nil ⟨rfl, ?_⟩;intro us a w hk hS
   simp only [STree.sty] at hk
   rw [he] at hS
   generalize hn6 : insF6 sl wd = n at *
   (repeat' (first|((first|refine wx1 ?_|refine wx2 ?_ ?_<;>intro hp|refine s_end hk ?_)<;>(clear hk a;intro a hk))|((first|refine wx3 ?_;intro w b|refine wx4 ?_;intro w|refine wx5 ?_;intro w v);clear hk hS a;intro hS a hk)|refine wx0 ?_|fail))
   refine sg hk (g_callO hk (hf := by kernel_rfl) (hc := lput6_any _ (id, k, tag, text, ⟨a1, cl.length, m1⟩, ⟨a2, al.length, m2⟩, ⟨a3, sl.length, m3⟩, ⟨a4, H.length, m4⟩) n _ hf (hS.rdSr hr0) (fun u hu g w _ hfu hru => size6_any _ u hu g w (Nat.lt_succ_self _) hfu hru)) (h := ?_));clear hk a;rintro vf w hS1 a hk;replace hS := hS.call hS1;clear hS1
   obtain ⟨ap, cp, rfl, hS1⟩ := hS.flow .here
   clear hS
   have hS := hS1
   clear hS1
   simp only [STree.sty, STree.kids] at hS hk
   rw [show (flwF sl n (sizL sl n kids)).1 = ptsF sl n kids from rfl] at hS
   generalize ptsF sl n kids = P at *
   (repeat' (first|((first|refine wx1 ?_|refine wx2 ?_ ?_<;>intro hp|refine s_end hk ?_)<;>(clear hk a;intro a hk))|((first|refine wx3 ?_;intro w b|refine wx4 ?_;intro w|refine wx5 ?_;intro w v);clear hk hS a;intro hS a hk)|refine wx0 ?_|fail))
   replace hk := Kn.kp [1, 2, 4, 5, 11, 12, 13, 46, 47, 48] hk
   have hS0 := hS.sub (L' := entH bl (acc ++ [e]) :: OwT 143 P (.slice ap kids.length cp) :: pts b5 [.int .i64 id, .int .i64 k, .string tag, .string text, .slice a1 cl.length m1, .slice a2 al.length m2, .slice a3 sl.length m3, .slice a4 H.length m4] 77 :: L) (.cons atx (.cons atx (.cons atx sbx)))
   refine wp_for H.length (fun i _ => [(48, .int .i64 (i : Int))]) (fun i _ => entH bl (acc ++ [e] ++ plcL sl n x y (kids.take i) P) :: OwT 143 P (.slice ap kids.length cp) :: pts b5 [.int .i64 id, .int .i64 k, .string tag, .string text, .slice a1 cl.length m1, .slice a2 al.length m2, .slice a3 sl.length m3, .slice a4 H.length m4] 77 :: L) (fun _ _ => True) () hk skx (by rw [show plcL sl n x y (kids.take 0) P = [] by simp only [List.take_zero, plcL], List.append_nil];exact hS0) trivial ?_
   clear hk hS a hS0
   rintro i - a w hi hk hS -
   by_cases hil : i < H.length
   ·obtain ⟨tk, htk⟩ : ∃ t, kids[i]? = some t := ⟨_, List.getElem?_eq_getElem (by omega)⟩
    obtain ⟨hd0, hx⟩ : ∃ x, H[i]? = some x := ⟨_, List.getElem?_eq_getElem hil⟩
    obtain ⟨⟨px, py⟩, hpx⟩ : ∃ p, P[i]? = some p := ⟨_, List.getElem?_eq_getElem (by omega)⟩
    have hTr := hF.2 i tk hd0 htk hx
    have hpk := hfk tk (List.mem_of_getElem? htk)
    have hgd : P.getD i (0, 0) = (px, py) := by simp [List.getD, hpx]
    have hlk : SizeOf.sizeOf tk < m := by have := skid_lt (id := id) (k := k) (tag := tag) (text := text) (cl := cl) (at_ := al) (st := sl) (List.mem_of_getElem? htk);omega
    have hst : plcL sl n x y (kids.take (i + 1)) P = plcL sl n x y (kids.take i) P ++ plcF tk (sumF [x, stI sl padS, px]) (sumF [y, stI sl padS, py]) (givF sl tk n) := by rw [take_snoc htk, plcL_snoc, List.length_take, Nat.min_eq_left (by omega), hgd]
    have hln1 := hlt (i + 1)
    rw [hst, List.length_append] at hln1
    generalize plcL sl n x y (kids.take i) P = pre at *
    obtain ⟨id0, k0, tag0, text0, ⟨x1, x2, x3⟩, ⟨y1, y2, y3⟩, ⟨z1, z2, z3⟩, ⟨u1, u2, u3⟩⟩ := hd0
    have hv1 := hS.rdT c4
    (repeat' (first|((first|refine wx1 ?_|refine wx2 ?_ ?_<;>intro hp|refine s_end hk ?_)<;>(clear hk a;intro a hk))|((first|refine wx3 ?_;intro w b|refine wx4 ?_;intro w|refine wx5 ?_;intro w v);clear hk hS a;intro hS a hk)|refine wx0 ?_|fail))
    clear hv1
    refine wp_drawn 24 mixed (by kernel_rfl) hk hS ?_;clear hk hS a
    (repeat' (first|(show ObxE _ _ _ _ _ _ _ _ _ (_::_) _ _ _;first|refine ox1 ?_|refine ox2 ?_ ?_<;>intro hp)|fail))
    refine' obe_res (fun us a w hk hd hS => ?_) ?_;rotate_left;focus (have hk := Kn.vw hk vwx;exact v_bsT (xs := [x, stI sl padS, px]) (m := 2) hk (hT := eT rfl) (hE := zT rfl) (hz := oT rfl))
    refine' obe_val (c := .int .i64 (sumF [x, stI sl padS, px])) (fun us a w hk hd hS => ?_) ?_
    ·have hk := Kn.vw hk vwx
     exact g_callO hk (hf := by kernel_rfl) (hc := sum6_any [x, stI sl padS, px] _ _ (OwT.rd hd.1) (by simp)) (h := fun _ _ h => h)
    (repeat' (first|(show ObxE _ _ _ _ _ _ _ _ _ (_::_) _ _ _;first|refine ox1 ?_|refine ox2 ?_ ?_<;>intro hp)|fail))
    refine' obe_res (fun us a w hk hd hS => ?_) ?_;rotate_left;focus (have hk := Kn.vw hk vwx;exact v_bsT (xs := [y, stI sl padS, py]) (m := 2) hk (hT := eT rfl) (hE := zT rfl) (hz := oT rfl))
    refine' obe_val (c := .int .i64 (sumF [y, stI sl padS, py])) (fun us a w hk hd hS => ?_) ?_
    ·have hk := Kn.vw hk vwx
     exact g_callO hk (hf := by kernel_rfl) (hc := sum6_any [y, stI sl padS, py] _ _ (OwT.rd hd.1) (by simp)) (h := fun _ _ h => h)
    (repeat' (first|(show ObxE _ _ _ _ _ _ _ _ _ (_::_) _ _ _;first|refine ox1 ?_|refine ox2 ?_ ?_<;>intro hp)|fail))
    refine' obe_val (fun us a w hk hd hS => ?_) ?_;rotate_left;focus (have hk := Kn.vw hk vwx;exact g_callO hk (hf := by kernel_rfl) (hc := given6_any _ (id, k, tag, text, ⟨a1, cl.length, m1⟩, ⟨a2, al.length, m2⟩, ⟨a3, sl.length, m3⟩, ⟨a4, H.length, m4⟩) tk (id0, k0, tag0, text0, ⟨x1, x2, x3⟩, ⟨y1, y2, y3⟩, ⟨z1, z2, z3⟩, ⟨u1, u2, u3⟩) n _ hf (hS.rdSr hr0) hpk (hS.rdSr hTr)) (h := fun _ _ h => h))
    (repeat' (first|(show ObxE _ _ _ _ _ _ _ _ _ (_::_) _ _ _;first|refine ox1 ?_|refine ox2 ?_ ?_<;>intro hp)|fail))
    refine obe_nil ⟨rfl, ?_⟩;intro us a w hk hS
    simp only [resE, List.cons_append, List.nil_append, Nat.zero_add, Nat.reduceAdd] at hS
    refine sg hk (g_callO hk (hf := by kernel_rfl) (hc := ih tk (id0, k0, tag0, text0, ⟨x1, x2, x3⟩, ⟨y1, y2, y3⟩, ⟨z1, z2, z3⟩, ⟨u1, u2, u3⟩) (sumF [x, stI sl padS, px]) (sumF [y, stI sl padS, py]) (givF sl tk n) (acc ++ [e] ++ pre) B _ _ hlk hpk hTr (by rw [List.length_append, List.length_append, List.length_singleton];omega) (hS.sub (.cons atx sbx))) (h := ?_));clear hk hS a;intro _ w hS a hk
    rw [List.append_assoc (acc ++ [e]), ← hst] at hS
    (repeat' (first|((first|refine wx1 ?_|refine wx2 ?_ ?_<;>intro hp|refine s_end hk ?_)<;>(clear hk a;intro a hk))|((first|refine wx3 ?_;intro w b|refine wx4 ?_;intro w|refine wx5 ?_;intro w v);clear hk hS a;intro hS a hk)|refine wx0 ?_|fail))
    exact ⟨hil, (), hk.sd, hS.sub (.cons atx (.cons atx (.cons atx sbx))), trivial⟩
   ·have hii : i = H.length := by omega
    subst hii
    have hz : kids.take H.length = kids := by rw [hHk, List.take_length]
    rw [hz] at hS
    (repeat' (first|((first|refine wx1 ?_|refine wx2 ?_ ?_<;>intro hp|refine s_end hk ?_)<;>(clear hk a;intro a hk))|((first|refine wx3 ?_;intro w b|refine wx4 ?_;intro w|refine wx5 ?_;intro w v);clear hk hS a;intro hS a hk)|refine wx0 ?_|fail))
    refine done0n hk (h := ?_)
    have hS1 := hS.sub (L' := entH bl (acc ++ [e] ++ plcL sl n x y kids P) :: L) (.cons atx sbx)
    rw [List.append_assoc] at hS1
    exact hS1
end Go.Proofs.YtbpkddpkcnlmhaaGreat
namespace Go.Proofs.YtbpkddpkcnlmhaaGreat
open Go.RowKit
mutual
def cnS : STree → Nat
 | .mk _ _ _ _ _ _ _ kids => cnL kids + 1
def cnL : List STree → Nat
 | [] => 0
 | t :: ts => cnS t + cnL ts
end
mutual
theorem plcF_len : ∀ (t : STree) (x y w : Int), (plcF t x y w).length ≤ cnS t
 | .mk id k tag text cl at_ st kids, x, y, w => by
  have := plcL_len st (insF6 st w) x y kids (ptsF st (insF6 st w) kids)
  simp only [plcF, List.length_cons, cnS]
  split
  ·simp
  ·omega
theorem plcL_len (st : List (ByteArray × Int)) (n x y : Int) : ∀ (l : List STree) (ps : List (Int × Int)), (plcL st n x y l ps).length ≤ cnL l
 | [], ps => by simp [plcL, cnL]
 | t :: ts, ps => by
  have h1 := plcF_len t (sumF [x, stI st padS, (ps.getD 0 (0, 0)).1]) (sumF [y, stI st padS, (ps.getD 0 (0, 0)).2]) (givF st t n)
  have h2 := plcL_len st n x y ts (ps.drop 1)
  simp only [plcL, cnL, List.length_append]
  omega
end
def PenOk (p : Pen) : Prop := Pq p.1 ∧ Pq p.2.1 ∧ Pq p.2.2.1 ∧ Pq p.2.2.2.1
abbrev PtOk (p : Int × Int) : Prop := Pq p.1 ∧ Pq p.2
theorem pq0 : Pq 0 := by omega
theorem sum3_pq {a b c : Int} (ha : Pq a) (hb : Pq b) (hc : Pq c) : Pq (sumF [a, b, c]) := sumF_pq pq0 (by
 intro x hx
 simp only [List.mem_cons, List.not_mem_nil, or_false] at hx
 rcases hx with rfl | rfl | rfl <;> assumption)
theorem penRow_ok {p : Pen} (h : PenOk p) : PenOk (penRow p) := by
 obtain ⟨x, y, hh, gap, wide, any⟩ := p
 obtain ⟨h1, h2, h3, h4⟩ := h
 refine ⟨pq0, ?_, pq0, h4⟩
 cases any
 ·exact h2
 ·exact sum3_pq h2 h3 h4
theorem penPut_ok {p : Pen} {s : Int × Int} {n : Int} (h : PenOk p) (hs : Pq s.2) (hn : Pq n) : PenOk (penPut p s n) := by
 obtain ⟨x, y, hh, gap, wide, any⟩ := p
 obtain ⟨h1, h2, h3, h4⟩ := h
 have h3' : Pq (max hh s.2) := by
  have h3 : Pq hh := h3
  omega
 exact ⟨sum3_pq h1 hn h4, h2, h3', h4⟩
theorem rowStep_ok {takes : Int × Int → Int} {next : Int → Pen → Int → Bool} (ht : ∀ s : Int × Int, Pq s.1 → Pq (takes s)) (acc : List (Int × Int)) (p : Pen) (s : Int × Int) (h1 : ∀ q ∈ acc, PtOk q) (h2 : PenOk p) :
  (∀ q ∈ (rowStep takes next (acc, p) s).1, PtOk q) ∧ PenOk (rowStep takes next (acc, p) s).2 := by
 have hs1 : Pq (plainF s).1 := max0_pq _
 have hs2 : Pq (plainF s).2 := max0_pq _
 have key : ∀ p' : Pen, PenOk p' → (∀ q ∈ acc ++ [(p'.1, p'.2.1)], PtOk q) ∧ PenOk (penPut p' (plainF s) (takes (plainF s))) := fun p' hp' => by
  refine ⟨fun q hq => ?_, penPut_ok hp' hs2 (ht _ hs1)⟩
  rcases List.mem_append.1 hq with hq | hq
  ·exact h1 q hq
  ·rw [List.mem_singleton] at hq
   subst hq
   exact ⟨hp'.1, hp'.2.1⟩
 by_cases hc : 0 < acc.length ∧ next acc.length p (takes (plainF s)) = true
 ·rw [rowStep_t hc];exact key _ (penRow_ok h2)
 ·rw [rowStep_f hc];exact key _ h2
theorem rows_ok {takes : Int × Int → Int} {next : Int → Pen → Int → Bool} (ht : ∀ s : Int × Int, Pq s.1 → Pq (takes s)) : ∀ (l : List (Int × Int)) (acc : List (Int × Int)) (p : Pen), (∀ q ∈ acc, PtOk q) → PenOk p →
  ∀ q ∈ (l.foldl (rowStep takes next) (acc, p)).1, PtOk q
 | [], _, _, h1, _ => h1
 | s :: l, acc, p, h1, h2 => by
  obtain ⟨k1, k2⟩ := rowStep_ok (next := next) ht acc p s h1 h2
  rw [List.foldl_cons]
  generalize rowStep takes next (acc, p) s = st at *
  exact rows_ok ht l st.1 st.2 k1 k2
theorem rowsF_ok {gap : Int} {takes : Int × Int → Int} {next : Int → Pen → Int → Bool} (ht : ∀ s : Int × Int, Pq s.1 → Pq (takes s)) (l : List (Int × Int)) : ∀ p ∈ (rowsF gap takes next l).1, PtOk p :=
 rows_ok ht l [] (0, 0, 0, leastF gap, 0, false) (fun p hp => by simp at hp) ⟨pq0, pq0, pq0, max0_pq _⟩
theorem ptsF_ok (st : List (ByteArray × Int)) (n : Int) (kids : List STree) : ∀ p ∈ ptsF st n kids, PtOk p := by
 unfold ptsF flwF
 split
 ·exact rowsF_ok (fun s h => h) _
 ·split
  ·exact rowsF_ok (fun s h => max0_pq _) _
  ·exact rowsF_ok (fun s h => h) _
theorem getD_ok {ps : List (Int × Int)} (h : ∀ p ∈ ps, PtOk p) : PtOk (ps.getD 0 (0, 0)) := by
 cases ps with
 | nil => exact ⟨pq0, pq0⟩
 | cons p ps => exact h p List.mem_cons_self
mutual
theorem plcF_pq : ∀ (t : STree) (x y w : Int), Pq x → Pq y → ∀ e ∈ plcF t x y w, Pq e.2.1 ∧ Pq e.2.2.1
 | .mk id k tag text cl at_ st kids, x, y, w, hx, hy, e, he => by
  simp only [plcF, List.mem_cons] at he
  rcases he with rfl | he
  ·exact ⟨hx, hy⟩
  ·split at he
   ·simp at he
   ·exact plcL_pq st (insF6 st w) x y hx hy kids _ (ptsF_ok st _ kids) e he
theorem plcL_pq (st : List (ByteArray × Int)) (n x y : Int) (hx : Pq x) (hy : Pq y) : ∀ (l : List STree) (ps : List (Int × Int)), (∀ p ∈ ps, PtOk p) → ∀ e ∈ plcL st n x y l ps, Pq e.2.1 ∧ Pq e.2.2.1
 | [], ps, _, e, he => by simp [plcL] at he
 | t :: ts, ps, hp, e, he => by
  have hd := getD_ok hp
  simp only [plcL, List.mem_append] at he
  rcases he with he | he
  ·exact plcF_pq t _ _ _ (sum3_pq hx (stI_pq _ _) hd.1) (sum3_pq hy (stI_pq _ _) hd.2) e he
  ·exact plcL_pq st n x y hx hy ts _ (fun p h => hp p (List.mem_of_mem_drop h)) e he
end
inductive InT (i : Int) : STree → Prop
 | here {k : Int} {tag text : ByteArray} {cl : List ByteArray} {at_ : List (ByteArray × ByteArray)} {st : List (ByteArray × Int)} {kids : List STree} : InT i (.mk i k tag text cl at_ st kids)
 | kid {id k : Int} {tag text : ByteArray} {cl : List ByteArray} {at_ : List (ByteArray × ByteArray)} {st : List (ByteArray × Int)} {kids : List STree} {u : STree} (hk : k ≠ 1) (hu : u ∈ kids) (h : InT i u) : InT i (.mk id k tag text cl at_ st kids)
theorem plcL_mem {st : List (ByteArray × Int)} {n x y : Int} {u : STree} : ∀ {l : List STree} (ps : List (Int × Int)), u ∈ l → ∃ x' y' w', ∀ e ∈ plcF u x' y' w', e ∈ plcL st n x y l ps
 | t :: ts, ps, h => by
  rcases List.mem_cons.1 h with rfl | h
  ·exact ⟨_, _, _, fun e he => by simp only [plcL];exact List.mem_append_left _ he⟩
  ·obtain ⟨x', y', w', hh⟩ := plcL_mem (ps.drop 1) h
   exact ⟨x', y', w', fun e he => by simp only [plcL];exact List.mem_append_right _ (hh e he)⟩
theorem plcF_in {i : Int} {t : STree} (h : InT i t) : ∀ x y w, ∃ e ∈ plcF t x y w, e.1 = i := by
 induction h with
 | here => exact fun x y w => ⟨_, by simp only [plcF];exact List.mem_cons_self, rfl⟩
 | kid hk hu _ ih =>
  intro x y w
  obtain ⟨x', y', w', hh⟩ := plcL_mem (ptsF _ _ _) hu
  obtain ⟨e, he, hi⟩ := ih x' y' w'
  exact ⟨e, by simp only [plcF, if_neg hk];exact List.mem_cons_of_mem _ (hh e he), hi⟩
end Go.Proofs.YtbpkddpkcnlmhaaGreat
namespace Go.Proofs.YtbpkddpkcnlmhaaGreat
open Go.RowKit
set_option maxRecDepth 100000
attribute [local irreducible] Go.Code.wpIn Go.wpListIn Go.Calls Gives Go.Exit.then Go.Exit.inBlock Done ObxE
abbrev Sh := Int × Int × Int
def shF (x y : List Ent) (id : Int) : List Sh := match lastF eid x id, lastF eid y id with
 | some o, some n => if subF o.2.1 n.2.1 ≠ 0 ∨ subF o.2.2.1 n.2.2.1 ≠ 0 then [(id, subF o.2.1 n.2.1, subF o.2.2.1 n.2.2.1)] else []
 | _, _ => []
def planF (x y : List Ent) (kids : List Int) : Nat → List Sh
 | 0 => []
 | n + 1 => planF x y kids n ++ (match kids[n]? with | some id => if id ∈ kids.take n then [] else shF x y id | none => [])
theorem planF_succ {x y : List Ent} {kids : List Int} {n : Nat} {id : Int} (h : kids[n]? = some id) : planF x y kids (n + 1) = planF x y kids n ++ (if id ∈ kids.take n then [] else shF x y id) := by
 simp only [planF, h]
theorem shF_len (x y : List Ent) (id : Int) : (shF x y id).length ≤ 1 := by
 unfold shF
 split
 ·split <;> simp
 ·simp
theorem planF_len (x y : List Ent) (kids : List Int) : ∀ n, (planF x y kids n).length ≤ n
 | 0 => by simp [planF]
 | n + 1 => by
  have := planF_len x y kids n
  simp only [planF, List.length_append]
  split
  ·split
   ·simp;omega
   ·have := shF_len x y ‹Int›;omega
  ·simp;omega
set_option maxHeartbeats 8000000 in
theorem plan_any (x y : List Ent) (kids : List Int) (vx vy vk : Value) (w0 : World) (hx : SlT x vx w0) (hy : SlT y vy w0) (hv : SlT kids vk w0) (hxl : x.length ≤ 1000) (hyl : y.length ≤ 1000) (hkl : kids.length ≤ 1000) :
  Calls Tryz.prog 15 #[vx, vy, vk] w0 (Ret fun v w => St w0 [OwT 87 (planF x y kids kids.length) v] w) := by
 have hsx := snap_len eid x
 have hsy := snap_len eid y
 refine enter Tryz.func15 rfl Tryz.ntmps15 rfl (fun a hk => ?_);have hS := St.refl w0
 (repeat' (first|((first|refine wx1 ?_|refine wx2 ?_ ?_<;>intro hp|refine s_end hk ?_)<;>(clear hk a;intro a hk))|((first|refine wx3 ?_;intro w b|refine wx4 ?_;intro w|refine wx5 ?_;intro w v);clear hk hS a;intro hS a hk)|refine wx0 ?_|fail))
 refine sg hk (g_callO hk (hf := by kernel_rfl) (hc := snapOf_any x vx _ (hS.rdT hx) hxl) (h := ?_));clear hk a;rintro va w hS1 a hk;replace hS := hS.call hS1;clear hS1
 (repeat' (first|((first|refine wx1 ?_|refine wx2 ?_ ?_<;>intro hp|refine s_end hk ?_)<;>(clear hk a;intro a hk))|((first|refine wx3 ?_;intro w b|refine wx4 ?_;intro w|refine wx5 ?_;intro w v);clear hk hS a;intro hS a hk)|refine wx0 ?_|fail))
 refine sg hk (g_callO hk (hf := by kernel_rfl) (hc := snapOf_any y vy _ (hS.rdT hy) hyl) (h := ?_));clear hk a;rintro vb w hS1 a hk;replace hS := hS.call hS1;clear hS1
 (repeat' (first|((first|refine wx1 ?_|refine wx2 ?_ ?_<;>intro hp|refine s_end hk ?_)<;>(clear hk a;intro a hk))|((first|refine wx3 ?_;intro w b|refine wx4 ?_;intro w|refine wx5 ?_;intro w v);clear hk hS a;intro hS a hk)|refine wx0 ?_|fail))
 refine sg hk (g_makeMap encI hS ?_);clear hk hS a;intro w mv hS a hk
 (repeat' (first|((first|refine wx1 ?_|refine wx2 ?_ ?_<;>intro hp|refine s_end hk ?_)<;>(clear hk a;intro a hk))|((first|refine wx3 ?_;intro w b|refine wx4 ?_;intro w|refine wx5 ?_;intro w v);clear hk hS a;intro hS a hk)|refine wx0 ?_|fail))
 replace hS := hS.nilT 87 Sh
 replace hk := Kn.kp [0, 1, 7, 8, 22, 23, 24] hk
 refine wp_for kids.length (fun i v => [(7, v.1), (24, .int .i64 (i : Int))]) (fun i v => [OwT 87 (planF x y kids i) v.1, mapH encI mv v.2, OwT 90 (snapF eid x) va, OwT 90 (snapF eid y) vb])
  (fun i v => ∀ k, (getL v.2 k).getD (.int .i64 0) = .int .i64 (((kids.take i).count k : Nat) : Int)) (.slice none 0 0, []) hk skx hS.sb (fun k => by simp [getL, posK]) ?_
 clear hk hS a
 rintro i ⟨vo, m⟩ a w hi hk hS hF
 simp only at hk hS hF
 have hpl := planF_len x y kids i
 by_cases hil : i < kids.length
 ·obtain ⟨id, hid⟩ : ∃ id, kids[i]? = some id := ⟨_, List.getElem?_eq_getElem hil⟩
  have hst := planF_succ (x := x) (y := y) hid
  have hcl : (kids.take i).count id ≤ 1000 := Nat.le_trans List.count_le_length (by rw [List.length_take];omega)
  have hF2 : ∀ k, (getL (setL m id (.int .i64 ((((kids.take i).count id : Nat) : Int) + 1))) k).getD (.int .i64 0) = .int .i64 (((kids.take (i + 1)).count k : Nat) : Int) := by
   intro k
   rw [getL_set, take_snoc hid, List.count_append]
   by_cases e : k = id
   ·subst e;simp
   ·have e' : ¬ id = k := fun h => e h.symm
    rw [if_neg e, hF k]
    simp [List.count_singleton, e']
  (repeat' (first|((first|refine wx1 ?_|refine wx2 ?_ ?_<;>intro hp|refine s_end hk ?_)<;>(clear hk a;intro a hk))|((first|refine wx3 ?_;intro w b|refine wx4 ?_;intro w|refine wx5 ?_;intro w v);clear hk hS a;intro hS a hk)|refine wx0 ?_|fail))
  refine sg hk (g_lookup (k := id) hk (hS.rd (A := mapH encI mv m) atx) ?_ (mT rfl) keyI (oT rfl));clear hk a;intro a hk
  rw [hF id] at hk
  (repeat' (first|((first|refine wx1 ?_|refine wx2 ?_ ?_<;>intro hp|refine s_end hk ?_)<;>(clear hk a;intro a hk))|((first|refine wx3 ?_;intro w b|refine wx4 ?_;intro w|refine wx5 ?_;intro w v);clear hk hS a;intro hS a hk)|refine wx0 ?_|fail))
  refine su hk (g_mapUpdate (k := id) hk hS ?_ (mT rfl) keyI);clear hk hS a;intro w hS a hk
  (repeat' (first|((first|refine wx1 ?_|refine wx2 ?_ ?_<;>intro hp|refine s_end hk ?_)<;>(clear hk a;intro a hk))|((first|refine wx3 ?_;intro w b|refine wx4 ?_;intro w|refine wx5 ?_;intro w v);clear hk hS a;intro hS a hk)|refine wx0 ?_|fail))
  refine sg hk (g_lookup (k := id) hk (hS.rd (A := mapH encI mv _) atx) ?_ (mT rfl) keyI (oT rfl));clear hk a;intro a hk
  rw [getL_set, if_pos rfl, Option.getD_some] at hk
  have hc : id ∈ kids.take i ↔ 0 < (kids.take i).count id := List.count_pos_iff.symm
  by_cases hin : id ∈ kids.take i
  ·have h0 := hc.1 hin
   rw [if_pos hin, List.append_nil] at hst
   rw [← hst] at hS
   (repeat' (first|((first|refine wx1 ?_|refine wx2 ?_ ?_<;>intro hp|refine s_end hk ?_)<;>(clear hk a;intro a hk))|((first|refine wx3 ?_;intro w b|refine wx4 ?_;intro w|refine wx5 ?_;intro w v);clear hk hS a;intro hS a hk)|refine wx0 ?_|fail))
   exact ⟨hil, (_, _), hk.subD (by (repeat (first | exact trivial | refine ⟨rfl, ?_⟩ | refine ⟨trivial, ?_⟩));fail_if_success focus skip), hS.sb, hF2⟩
  ·have h0 : ¬ 0 < (kids.take i).count id := fun h => hin (hc.2 h)
   rw [if_neg hin] at hst
   have hg1 := snap_last_eq eid x id
   have hg2 := snap_last_eq eid y id
   have hR1 : getR (snapF eid x) id = ((lastF eid x id).getD (0, 0, 0, 0, 0)).2 := by unfold getR;rw [hg1]
   have hR2 : getR (snapF eid y) id = ((lastF eid y id).getD (0, 0, 0, 0, 0)).2 := by unfold getR;rw [hg2]
   have hS1' : (lastF eid (snapF eid x) id).isSome = (lastF eid x id).isSome := by rw [hg1]
   have hS2' : (lastF eid (snapF eid y) id).isSome = (lastF eid y id).isSome := by rw [hg2]
   unfold shF at hst
   cases h1 : lastF eid x id with
   | none =>
    rw [h1] at hst
    have R1 : getR (snapF eid x) id = (0, 0, 0, 0) := by rw [hR1, h1];rfl
    have S1 : (lastF eid (snapF eid x) id).isSome = false := by rw [hS1', h1];rfl
    simp only [List.append_nil] at hst
    rw [← hst] at hS
    cases h2 : lastF eid y id with
    | none =>
     have R2 : getR (snapF eid y) id = (0, 0, 0, 0) := by rw [hR2, h2];rfl
     have S2 : (lastF eid (snapF eid y) id).isSome = false := by rw [hS2', h2];rfl
     (repeat' (first|((first|refine wx1 ?_|refine wx2 ?_ ?_<;>intro hp|refine s_end hk ?_)<;>(clear hk a;intro a hk))|((first|refine wx3 ?_;intro w b|refine wx4 ?_;intro w|refine wx5 ?_;intro w v);clear hk hS a;intro hS a hk)|refine wx0 ?_|fail))
     refine sg hk (g_callO hk (hf := by kernel_rfl) (hc := get_any (snapF eid x) id va _ (by first | exact St.rdT hS (by assumption) | exact OwT.rd (hS.rd (A := OwT _ _ _) atx) | assumption) (by omega)) (h := ?_));clear hk a;rintro _ w ⟨rfl, hS1⟩ a hk;replace hS := hS.call0 hS1;clear hS1
     rw [R1, S1] at hk
     (repeat' (first|((first|refine wx1 ?_|refine wx2 ?_ ?_<;>intro hp|refine s_end hk ?_)<;>(clear hk a;intro a hk))|((first|refine wx3 ?_;intro w b|refine wx4 ?_;intro w|refine wx5 ?_;intro w v);clear hk hS a;intro hS a hk)|refine wx0 ?_|fail))
     refine sg hk (g_callO hk (hf := by kernel_rfl) (hc := get_any (snapF eid y) id vb _ (by first | exact St.rdT hS (by assumption) | exact OwT.rd (hS.rd (A := OwT _ _ _) atx) | assumption) (by omega)) (h := ?_));clear hk a;rintro _ w ⟨rfl, hS1⟩ a hk;replace hS := hS.call0 hS1;clear hS1
     rw [R2, S2] at hk
     (repeat' (first|((first|refine wx1 ?_|refine wx2 ?_ ?_<;>intro hp|refine s_end hk ?_)<;>(clear hk a;intro a hk))|((first|refine wx3 ?_;intro w b|refine wx4 ?_;intro w|refine wx5 ?_;intro w v);clear hk hS a;intro hS a hk)|refine wx0 ?_|fail))
     exact ⟨hil, (_, _), hk.subD (by (repeat (first | exact trivial | refine ⟨rfl, ?_⟩ | refine ⟨trivial, ?_⟩));fail_if_success focus skip), hS.sb, hF2⟩
    | some q =>
     obtain ⟨qi, qX, qY, qW, qH⟩ := q
     have R2 : getR (snapF eid y) id = (qX, qY, qW, qH) := by rw [hR2, h2];rfl
     have S2 : (lastF eid (snapF eid y) id).isSome = true := by rw [hS2', h2];rfl
     (repeat' (first|((first|refine wx1 ?_|refine wx2 ?_ ?_<;>intro hp|refine s_end hk ?_)<;>(clear hk a;intro a hk))|((first|refine wx3 ?_;intro w b|refine wx4 ?_;intro w|refine wx5 ?_;intro w v);clear hk hS a;intro hS a hk)|refine wx0 ?_|fail))
     refine sg hk (g_callO hk (hf := by kernel_rfl) (hc := get_any (snapF eid x) id va _ (by first | exact St.rdT hS (by assumption) | exact OwT.rd (hS.rd (A := OwT _ _ _) atx) | assumption) (by omega)) (h := ?_));clear hk a;rintro _ w ⟨rfl, hS1⟩ a hk;replace hS := hS.call0 hS1;clear hS1
     rw [R1, S1] at hk
     (repeat' (first|((first|refine wx1 ?_|refine wx2 ?_ ?_<;>intro hp|refine s_end hk ?_)<;>(clear hk a;intro a hk))|((first|refine wx3 ?_;intro w b|refine wx4 ?_;intro w|refine wx5 ?_;intro w v);clear hk hS a;intro hS a hk)|refine wx0 ?_|fail))
     refine sg hk (g_callO hk (hf := by kernel_rfl) (hc := get_any (snapF eid y) id vb _ (by first | exact St.rdT hS (by assumption) | exact OwT.rd (hS.rd (A := OwT _ _ _) atx) | assumption) (by omega)) (h := ?_));clear hk a;rintro _ w ⟨rfl, hS1⟩ a hk;replace hS := hS.call0 hS1;clear hS1
     rw [R2, S2] at hk
     (repeat' (first|((first|refine wx1 ?_|refine wx2 ?_ ?_<;>intro hp|refine s_end hk ?_)<;>(clear hk a;intro a hk))|((first|refine wx3 ?_;intro w b|refine wx4 ?_;intro w|refine wx5 ?_;intro w v);clear hk hS a;intro hS a hk)|refine wx0 ?_|fail))
     exact ⟨hil, (_, _), hk.subD (by (repeat (first | exact trivial | refine ⟨rfl, ?_⟩ | refine ⟨trivial, ?_⟩));fail_if_success focus skip), hS.sb, hF2⟩
   | some o =>
    rw [h1] at hst
    obtain ⟨oi, oX, oY, oW, oH⟩ := o
    have R1 : getR (snapF eid x) id = (oX, oY, oW, oH) := by rw [hR1, h1];rfl
    have S1 : (lastF eid (snapF eid x) id).isSome = true := by rw [hS1', h1];rfl
    cases h2 : lastF eid y id with
    | none =>
     rw [h2] at hst
     have R2 : getR (snapF eid y) id = (0, 0, 0, 0) := by rw [hR2, h2];rfl
     have S2 : (lastF eid (snapF eid y) id).isSome = false := by rw [hS2', h2];rfl
     simp only [List.append_nil] at hst
     rw [← hst] at hS
     (repeat' (first|((first|refine wx1 ?_|refine wx2 ?_ ?_<;>intro hp|refine s_end hk ?_)<;>(clear hk a;intro a hk))|((first|refine wx3 ?_;intro w b|refine wx4 ?_;intro w|refine wx5 ?_;intro w v);clear hk hS a;intro hS a hk)|refine wx0 ?_|fail))
     refine sg hk (g_callO hk (hf := by kernel_rfl) (hc := get_any (snapF eid x) id va _ (by first | exact St.rdT hS (by assumption) | exact OwT.rd (hS.rd (A := OwT _ _ _) atx) | assumption) (by omega)) (h := ?_));clear hk a;rintro _ w ⟨rfl, hS1⟩ a hk;replace hS := hS.call0 hS1;clear hS1
     rw [R1, S1] at hk
     (repeat' (first|((first|refine wx1 ?_|refine wx2 ?_ ?_<;>intro hp|refine s_end hk ?_)<;>(clear hk a;intro a hk))|((first|refine wx3 ?_;intro w b|refine wx4 ?_;intro w|refine wx5 ?_;intro w v);clear hk hS a;intro hS a hk)|refine wx0 ?_|fail))
     refine sg hk (g_callO hk (hf := by kernel_rfl) (hc := get_any (snapF eid y) id vb _ (by first | exact St.rdT hS (by assumption) | exact OwT.rd (hS.rd (A := OwT _ _ _) atx) | assumption) (by omega)) (h := ?_));clear hk a;rintro _ w ⟨rfl, hS1⟩ a hk;replace hS := hS.call0 hS1;clear hS1
     rw [R2, S2] at hk
     (repeat' (first|((first|refine wx1 ?_|refine wx2 ?_ ?_<;>intro hp|refine s_end hk ?_)<;>(clear hk a;intro a hk))|((first|refine wx3 ?_;intro w b|refine wx4 ?_;intro w|refine wx5 ?_;intro w v);clear hk hS a;intro hS a hk)|refine wx0 ?_|fail))
     exact ⟨hil, (_, _), hk.subD (by (repeat (first | exact trivial | refine ⟨rfl, ?_⟩ | refine ⟨trivial, ?_⟩));fail_if_success focus skip), hS.sb, hF2⟩
    | some q =>
     rw [h2] at hst
     obtain ⟨qi, qX, qY, qW, qH⟩ := q
     have R2 : getR (snapF eid y) id = (qX, qY, qW, qH) := by rw [hR2, h2];rfl
     have S2 : (lastF eid (snapF eid y) id).isSome = true := by rw [hS2', h2];rfl
     simp only at hst
     (repeat' (first|((first|refine wx1 ?_|refine wx2 ?_ ?_<;>intro hp|refine s_end hk ?_)<;>(clear hk a;intro a hk))|((first|refine wx3 ?_;intro w b|refine wx4 ?_;intro w|refine wx5 ?_;intro w v);clear hk hS a;intro hS a hk)|refine wx0 ?_|fail))
     refine sg hk (g_callO hk (hf := by kernel_rfl) (hc := get_any (snapF eid x) id va _ (by first | exact St.rdT hS (by assumption) | exact OwT.rd (hS.rd (A := OwT _ _ _) atx) | assumption) (by omega)) (h := ?_));clear hk a;rintro _ w ⟨rfl, hS1⟩ a hk;replace hS := hS.call0 hS1;clear hS1
     rw [R1, S1] at hk
     (repeat' (first|((first|refine wx1 ?_|refine wx2 ?_ ?_<;>intro hp|refine s_end hk ?_)<;>(clear hk a;intro a hk))|((first|refine wx3 ?_;intro w b|refine wx4 ?_;intro w|refine wx5 ?_;intro w v);clear hk hS a;intro hS a hk)|refine wx0 ?_|fail))
     refine sg hk (g_callO hk (hf := by kernel_rfl) (hc := get_any (snapF eid y) id vb _ (by first | exact St.rdT hS (by assumption) | exact OwT.rd (hS.rd (A := OwT _ _ _) atx) | assumption) (by omega)) (h := ?_));clear hk a;rintro _ w ⟨rfl, hS1⟩ a hk;replace hS := hS.call0 hS1;clear hS1
     rw [R2, S2] at hk
     (repeat' (first|((first|refine wx1 ?_|refine wx2 ?_ ?_<;>intro hp|refine s_end hk ?_)<;>(clear hk a;intro a hk))|((first|refine wx3 ?_;intro w b|refine wx4 ?_;intro w|refine wx5 ?_;intro w v);clear hk hS a;intro hS a hk)|refine wx0 ?_|fail))
     refine sg hk (g_callO hk (hf := by kernel_rfl) (hc := offset_any oX oY oW oH qX qY qW qH _) (h := ?_));clear hk a;rintro _ w ⟨rfl, hS1⟩ a hk;replace hS := hS.call0 hS1;clear hS1
     by_cases h3 : subF oX qX = 0
     ·by_cases h4 : subF oY qY = 0
      ·rw [if_neg (by simp [h3, h4]), List.append_nil] at hst
       rw [← hst] at hS
       (repeat' (first|((first|refine wx1 ?_|refine wx2 ?_ ?_<;>intro hp|refine s_end hk ?_)<;>(clear hk a;intro a hk))|((first|refine wx3 ?_;intro w b|refine wx4 ?_;intro w|refine wx5 ?_;intro w v);clear hk hS a;intro hS a hk)|refine wx0 ?_|fail))
       exact ⟨hil, (_, _), hk.subD (by (repeat (first | exact trivial | refine ⟨rfl, ?_⟩ | refine ⟨trivial, ?_⟩));fail_if_success focus skip), hS.sb, hF2⟩
      ·rw [if_pos (by simp [h4])] at hst
       (repeat' (first|((first|refine wx1 ?_|refine wx2 ?_ ?_<;>intro hp|refine s_end hk ?_)<;>(clear hk a;intro a hk))|((first|refine wx3 ?_;intro w b|refine wx4 ?_;intro w|refine wx5 ?_;intro w v);clear hk hS a;intro hS a hk)|refine wx0 ?_|fail))
       refine sg hk (g_bsT (xs := [((id, subF oX qX, subF oY qY) : Sh)]) (m := 0) hk hS ?_ (hT := eT rfl) (hE := zT rfl) (hz := oT rfl));clear hk hS a;intro w ve hS a hk
       (repeat' (first|((first|refine wx1 ?_|refine wx2 ?_ ?_<;>intro hp|refine s_end hk ?_)<;>(clear hk a;intro a hk))|((first|refine wx3 ?_;intro w b|refine wx4 ?_;intro w|refine wx5 ?_;intro w v);clear hk hS a;intro hS a hk)|refine wx0 ?_|fail))
       rw [← hst] at hS
       exact ⟨hil, (_, _), hk.subD (by (repeat (first | exact trivial | refine ⟨rfl, ?_⟩ | refine ⟨trivial, ?_⟩));fail_if_success focus skip), hS.sb, hF2⟩
     ·rw [if_pos (by simp [h3])] at hst
      (repeat' (first|((first|refine wx1 ?_|refine wx2 ?_ ?_<;>intro hp|refine s_end hk ?_)<;>(clear hk a;intro a hk))|((first|refine wx3 ?_;intro w b|refine wx4 ?_;intro w|refine wx5 ?_;intro w v);clear hk hS a;intro hS a hk)|refine wx0 ?_|fail))
      refine sg hk (g_bsT (xs := [((id, subF oX qX, subF oY qY) : Sh)]) (m := 0) hk hS ?_ (hT := eT rfl) (hE := zT rfl) (hz := oT rfl));clear hk hS a;intro w ve hS a hk
      (repeat' (first|((first|refine wx1 ?_|refine wx2 ?_ ?_<;>intro hp|refine s_end hk ?_)<;>(clear hk a;intro a hk))|((first|refine wx3 ?_;intro w b|refine wx4 ?_;intro w|refine wx5 ?_;intro w v);clear hk hS a;intro hS a hk)|refine wx0 ?_|fail))
      rw [← hst] at hS
      exact ⟨hil, (_, _), hk.subD (by (repeat (first | exact trivial | refine ⟨rfl, ?_⟩ | refine ⟨trivial, ?_⟩));fail_if_success focus skip), hS.sb, hF2⟩
 ·have : i = kids.length := by omega
  subst this
  (repeat' (first|((first|refine wx1 ?_|refine wx2 ?_ ?_<;>intro hp|refine s_end hk ?_)<;>(clear hk a;intro a hk))|((first|refine wx3 ?_;intro w b|refine wx4 ?_;intro w|refine wx5 ?_;intro w v);clear hk hS a;intro hS a hk)|refine wx0 ?_|fail))
  exact done1 hk (h := hS.sb)
end Go.Proofs.YtbpkddpkcnlmhaaGreat
namespace Go.Proofs.YtbpkddpkcnlmhaaGreat
open Go.RowKit
set_option maxRecDepth 100000
attribute [local irreducible] Go.Code.wpIn Go.wpListIn Go.Calls Gives Go.Exit.then Go.Exit.inBlock Done ObxE
def leftF (s : Sh) (t dur : Int) : Sh := if dur < 1 ∨ dur ≤ t then (s.1, 0, 0) else if t < 1 then s else (s.1, divF (mulF s.2.1 (dur - t)) dur, divF (mulF s.2.2 (dur - t)) dur)
end Go.Proofs.YtbpkddpkcnlmhaaGreat
namespace Go.Proofs.YtbpkddpkcnlmhaaGreat
open Go.RowKit
set_option maxRecDepth 100000
attribute [local irreducible] Go.Code.wpIn Go.wpListIn Go.Calls Gives Go.Exit.then Go.Exit.inBlock Done ObxE
def movE (e : Ent) (s : Sh) : Ent := (s.1, addF e.2.1 s.2.1, addF e.2.2.1 s.2.2, e.2.2.2.1, e.2.2.2.2)
def stepSh (M : List Ent) (s : Sh) : List Ent := match lastF eid M s.1 with | some e => putF eid M (movE e s) | none => M
def applySh (l : List Ent) (t : List Sh) : List Ent := t.foldl stepSh (snapF eid l)
theorem stepSh_rises {M : List Ent} (h : Rises eid M) (s : Sh) : Rises eid (stepSh M s) := by
 unfold stepSh
 split
 ·exact put_rises eid h
 ·exact h
theorem stepSh_len {M : List Ent} (h : Rises eid M) (s : Sh) : (stepSh M s).length = M.length := by
 unfold stepSh
 split
 ·rename_i e he
  have hk := last_key eid he
  have hm := last_mem eid he
  obtain ⟨n, hn, rfl⟩ := List.getElem_of_mem hm
  have hp := List.pairwise_iff_getElem.1 h
  have hF : Found eid M (movE M[n] s).1 n true := by
   refine ⟨by omega, fun i hi hin => ?_, fun i hi hin => ?_, ?_⟩
   ·have := hp i n hi hn hin
    rw [show eid M[n] = s.1 from hk] at this
    exact this
   ·by_cases e : i = n
    ·subst e
     rw [show eid M[i] = s.1 from hk]
     exact Lin.irr _
    ·have := hp n i hn hi (by omega)
     rw [show eid M[n] = s.1 from hk] at this
     exact Lin.asym this
   ·simp only [true_iff]
    exact ⟨hn, hk⟩
  have := (found_set eid (e := movE M[n] s) hF).2
  rw [← this, List.length_set]
 ·rfl
def mapSh (M : List Ent) (s : Sh) : List Ent := M.map (fun e => if e.1 = s.1 then movE e s else e)
theorem applySh_snoc (l : List Ent) (t : List Sh) (s : Sh) : applySh l (t ++ [s]) = stepSh (applySh l t) s := by simp [applySh]
theorem applySh_inv (l : List Ent) (t : List Sh) : Rises eid (applySh l t) ∧ (applySh l t).length ≤ l.length := by
 unfold applySh
 have : ∀ (t : List Sh) (M : List Ent), Rises eid M → Rises eid (t.foldl stepSh M) ∧ (t.foldl stepSh M).length = M.length := by
  intro t
  induction t with
  | nil => exact fun M h => ⟨h, rfl⟩
  | cons s t ih =>
   intro M h
   obtain ⟨h1, h2⟩ := ih _ (stepSh_rises h s)
   exact ⟨h1, by rw [List.foldl_cons, h2, stepSh_len h]⟩
 obtain ⟨h1, h2⟩ := this t _ (snap_rises eid l)
 exact ⟨h1, by rw [h2];exact snap_len eid l⟩
theorem snapA {s : List Ent} (hs : Rises eid s) (e : Ent) : snapF eid (s ++ [e]) = putF eid s e := by rw [snap_snoc, snap_of_rises eid hs]
set_option maxHeartbeats 4000000 in
theorem applySh_any (l : List Ent) (t : List Sh) (v u : Value) (w0 : World) (hv : SlT l v w0) (hu : SlT t u w0) (hl : l.length ≤ 900) (ht : t.length ≤ 900) :
  Calls Tryz.prog 16 #[v, u] w0 (Ret fun v w => St w0 [OwT 90 (applySh l t) v] w) := by
 refine enter Tryz.func16 rfl Tryz.ntmps16 rfl (fun a hk => ?_);have hS := St.refl w0
 (repeat' (first|((first|refine wx1 ?_|refine wx2 ?_ ?_<;>intro hp|refine s_end hk ?_)<;>(clear hk a;intro a hk))|((first|refine wx3 ?_;intro w b|refine wx4 ?_;intro w|refine wx5 ?_;intro w v);clear hk hS a;intro hS a hk)|refine wx0 ?_|fail))
 refine sg hk (g_callO hk (hf := by kernel_rfl) (hc := snapOf_any l v _ (hS.rdT hv) (by omega)) (h := ?_));clear hk a;rintro vs w hS1 a hk;replace hS := hS.call hS1;clear hS1
 (repeat' (first|((first|refine wx1 ?_|refine wx2 ?_ ?_<;>intro hp|refine s_end hk ?_)<;>(clear hk a;intro a hk))|((first|refine wx3 ?_;intro w b|refine wx4 ?_;intro w|refine wx5 ?_;intro w v);clear hk hS a;intro hS a hk)|refine wx0 ?_|fail))
 replace hk := Kn.kp [0, 11, 12, 13] hk
 refine wp_for t.length (fun i v => [(0, v), (13, .int .i64 (i : Int))]) (fun i v => [OwT 90 (applySh l (t.take i)) v]) (fun _ _ => True) vs hk skx hS.sb trivial ?_
 clear hk hS a
 rintro i vo a w hi hk hS -
 obtain ⟨hr, hle⟩ := applySh_inv l (t.take i)
 by_cases hil : i < t.length
 ·obtain ⟨⟨id, dx, dy⟩, hx⟩ : ∃ x, t[i]? = some x := ⟨_, List.getElem?_eq_getElem hil⟩
  have hst : applySh l (t.take (i + 1)) = stepSh (applySh l (t.take i)) (id, dx, dy) := by rw [take_snoc hx, applySh_snoc]
  generalize applySh l (t.take i) = M at *
  (repeat' (first|((first|refine wx1 ?_|refine wx2 ?_ ?_<;>intro hp|refine s_end hk ?_)<;>(clear hk a;intro a hk))|((first|refine wx3 ?_;intro w b|refine wx4 ?_;intro w|refine wx5 ?_;intro w v);clear hk hS a;intro hS a hk)|refine wx0 ?_|fail))
  refine sg hk (g_callO hk (hf := by kernel_rfl) (hc := get_any M id vo _ (by first | exact St.rdT hS (by assumption) | exact OwT.rd (hS.rd (A := OwT _ _ _) atx) | assumption) (by omega)) (h := ?_));clear hk a;rintro _ w ⟨rfl, hS1⟩ a hk;replace hS := hS.call0 hS1;clear hS1
  unfold stepSh at hst
  cases hlt : lastF eid M id with
  | none =>
   have S1 : (lastF eid M id).isSome = false := by rw [hlt];rfl
   have R1 : getR M id = (0, 0, 0, 0) := by unfold getR;rw [hlt];rfl
   rw [S1, R1] at hk
   simp only [hlt] at hst
   rw [← hst] at hS
   (repeat' (first|((first|refine wx1 ?_|refine wx2 ?_ ?_<;>intro hp|refine s_end hk ?_)<;>(clear hk a;intro a hk))|((first|refine wx3 ?_;intro w b|refine wx4 ?_;intro w|refine wx5 ?_;intro w v);clear hk hS a;intro hS a hk)|refine wx0 ?_|fail))
   exact ⟨hil, _, hk.sd, hS.sb, trivial⟩
  | some e =>
   obtain ⟨e1, X, Y, W, H⟩ := e
   have S1 : (lastF eid M id).isSome = true := by rw [hlt];rfl
   have R1 : getR M id = (X, Y, W, H) := by unfold getR;rw [hlt];rfl
   rw [S1, R1] at hk
   simp only [hlt, movE] at hst
   (repeat' (first|((first|refine wx1 ?_|refine wx2 ?_ ?_<;>intro hp|refine s_end hk ?_)<;>(clear hk a;intro a hk))|((first|refine wx3 ?_;intro w b|refine wx4 ?_;intro w|refine wx5 ?_;intro w v);clear hk hS a;intro hS a hk)|refine wx0 ?_|fail))
   refine wp_drawn 11 mixed (by kernel_rfl) hk hS ?_;clear hk hS a
   (repeat' (first|(show ObxE _ _ _ _ _ _ _ _ _ (_::_) _ _ _;first|refine ox1 ?_|refine ox2 ?_ ?_<;>intro hp)|fail))
   refine' obe_val (fun us a w hk hd hS => ?_) ?_;rotate_left;focus (have hk := Kn.vw hk vwx;exact g_callO hk (hf := by kernel_rfl) (hc := at_any X Y W H dx dy _) (h := fun _ _ h => h))
   (repeat' (first|(show ObxE _ _ _ _ _ _ _ _ _ (_::_) _ _ _;first|refine ox1 ?_|refine ox2 ?_ ?_<;>intro hp)|fail))
   refine' obe_res (fun us a w hk hd hS => ?_) ?_;rotate_left;focus (have hk := Kn.vw hk vwx;exact v_bsT (xs := [((id, addF X dx, addF Y dy, W, H) : Ent)]) (m := 0) hk (hT := eT rfl) (hE := zT rfl) (hz := oT rfl))
   refine obe_nil ⟨rfl, ?_⟩;intro us a w hk hS
   simp only [resE] at hS
   (repeat' (first|((first|refine wx1 ?_|refine wx2 ?_ ?_<;>intro hp|refine s_end hk ?_)<;>(clear hk a;intro a hk))|((first|refine wx3 ?_;intro w b|refine wx4 ?_;intro w|refine wx5 ?_;intro w v);clear hk hS a;intro hS a hk)|refine wx0 ?_|fail))
   refine sg hk (g_callO hk (hf := by kernel_rfl) (hc := snapOf_any (M ++ [((id, addF X dx, addF Y dy, W, H) : Ent)]) _ _ (by first | exact St.rdT hS (by assumption) | exact OwT.rd (hS.rd (A := OwT _ _ _) atx) | assumption) (by rw [List.length_append, List.length_singleton];omega)) (h := ?_));clear hk a;rintro vn w hS1 a hk;replace hS := hS.call hS1;clear hS1
   rw [snapA hr, ← hst] at hS
   (repeat' (first|((first|refine wx1 ?_|refine wx2 ?_ ?_<;>intro hp|refine s_end hk ?_)<;>(clear hk a;intro a hk))|((first|refine wx3 ?_;intro w b|refine wx4 ?_;intro w|refine wx5 ?_;intro w v);clear hk hS a;intro hS a hk)|refine wx0 ?_|fail))
   exact ⟨hil, _, hk.sd, hS.sb, trivial⟩
 ·have : i = t.length := by omega
  subst this
  rw [List.take_length] at hS
  (repeat' (first|((first|refine wx1 ?_|refine wx2 ?_ ?_<;>intro hp|refine s_end hk ?_)<;>(clear hk a;intro a hk))|((first|refine wx3 ?_;intro w b|refine wx4 ?_;intro w|refine wx5 ?_;intro w v);clear hk hS a;intro hS a hk)|refine wx0 ?_|fail))
  exact done1 hk (h := hS.sb)
end Go.Proofs.YtbpkddpkcnlmhaaGreat
namespace Go.Proofs.YtbpkddpkcnlmhaaGreat
theorem last_put {M : List Ent} (h : Rises eid M) (p : Ent) (k : Int) : lastF eid (putF eid M p) k = if p.1 = k then some p else lastF eid M k := by
 rw [← snapA h, snap_last_eq, last_snoc]
theorem last_step {M : List Ent} (h : Rises eid M) (s : Sh) (k : Int) : lastF eid (stepSh M s) k = if k = s.1 then (lastF eid M k).map (movE · s) else lastF eid M k := by
 unfold stepSh
 cases hl : lastF eid M s.1 with
 | none =>
  by_cases e : k = s.1
  ·subst e;rw [if_pos rfl];simp only;rw [hl];rfl
  ·rw [if_neg e]
 | some x =>
  simp only
  rw [last_put h]
  by_cases e : k = s.1
  ·subst e;rw [if_pos rfl, if_pos (show (movE x s).1 = s.1 from rfl), hl];rfl
  ·rw [if_neg (fun h => e h.symm), if_neg e]
theorem last_fold : ∀ (t : List Sh) (M : List Ent) (k : Int), Rises eid M → (t.map (·.1)).Nodup →
  (∀ s ∈ t, s.1 = k → lastF eid (t.foldl stepSh M) k = (lastF eid M k).map (movE · s)) ∧ ((∀ s ∈ t, s.1 ≠ k) → lastF eid (t.foldl stepSh M) k = lastF eid M k)
 | [], _, _, _, _ => ⟨fun s h => by simp at h, fun _ => rfl⟩
 | s :: t, M, k, hM, hn => by
  have hn' := List.nodup_cons.1 hn
  obtain ⟨ih1, ih2⟩ := last_fold t (stepSh M s) k (stepSh_rises hM s) hn'.2
  rw [last_step hM] at ih1 ih2
  rw [List.foldl_cons]
  refine ⟨fun r hr hrk => ?_, fun h => ?_⟩
  ·rcases List.mem_cons.1 hr with e | hr
   ·subst e
    have hno : ∀ q ∈ t, q.1 ≠ k := fun q hq e => hn'.1 (List.mem_map.2 ⟨q, hq, e.trans hrk.symm⟩)
    rw [ih2 hno, if_pos hrk.symm]
   ·have hne : k ≠ s.1 := fun e => hn'.1 (List.mem_map.2 ⟨r, hr, hrk.trans e⟩)
    rw [ih1 r hr hrk, if_neg hne]
  ·rw [ih2 (fun q hq => h q (by simp [hq])), if_neg (fun e => h s (by simp) e.symm)]
theorem shF_id {x y : List Ent} {id : Int} {s : Sh} (h : s ∈ shF x y id) : s.1 = id := by
 unfold shF at h
 split at h
 ·split at h
  ·rw [List.mem_singleton] at h;rw [h]
  ·cases h
 ·cases h
theorem shF_nodup (x y : List Ent) (id : Int) : ((shF x y id).map (·.1)).Nodup := by
 unfold shF
 split
 ·split <;> simp
 ·simp
theorem planF_mem {x y : List Ent} {K : List Int} : ∀ {n : Nat}, n ≤ K.length → ∀ s : Sh, s ∈ planF x y K n ↔ s.1 ∈ K.take n ∧ s ∈ shF x y s.1
 | 0, _, s => by simp [planF]
 | n + 1, h, s => by
  have hk : K[n]? = some (K[n]'(by omega)) := List.getElem?_eq_getElem (by omega)
  rw [planF_succ hk, List.mem_append, planF_mem (n := n) (by omega) s, take_snoc hk, List.mem_append, List.mem_singleton]
  by_cases hin : K[n]'(by omega) ∈ K.take n
  ·rw [if_pos hin]
   constructor
   ·rintro (⟨h1, h2⟩ | h1)
    ·exact ⟨.inl h1, h2⟩
    ·cases h1
   ·rintro ⟨h1 | h1, h2⟩
    ·exact .inl ⟨h1, h2⟩
    ·exact .inl ⟨by rw [h1];exact hin, h2⟩
  ·rw [if_neg hin]
   constructor
   ·rintro (⟨h1, h2⟩ | h1)
    ·exact ⟨.inl h1, h2⟩
    ·have := shF_id h1
     exact ⟨.inr this, by rw [this];exact h1⟩
   ·rintro ⟨h1 | h1, h2⟩
    ·exact .inl ⟨h1, h2⟩
    ·exact .inr (by rw [h1] at h2;exact h2)
theorem planF_nodup {x y : List Ent} {K : List Int} : ∀ {n : Nat}, n ≤ K.length → ((planF x y K n).map (·.1)).Nodup
 | 0, _ => by simp [planF]
 | n + 1, h => by
  have hk : K[n]? = some (K[n]'(by omega)) := List.getElem?_eq_getElem (by omega)
  rw [planF_succ hk, List.map_append, List.nodup_append]
  refine ⟨planF_nodup (n := n) (by omega), ?_, ?_⟩
  ·split
   ·simp
   ·exact shF_nodup x y _
  ·intro a ha b hb e
   subst e
   split at hb
   ·simp at hb
   ·rename_i hin
    obtain ⟨s, hs, rfl⟩ := List.mem_map.1 ha
    obtain ⟨r, hr, hrs⟩ := List.mem_map.1 hb
    have h1 := ((planF_mem (n := n) (by omega) s).1 hs).1
    have h2 := shF_id hr
    rw [← hrs, h2] at h1
    exact hin h1
def inR (e : Ent) : Prop := (-1000000000 ≤ e.2.1 ∧ e.2.1 ≤ 1000000000) ∧ (-1000000000 ≤ e.2.2.1 ∧ e.2.2.1 ≤ 1000000000)
theorem back_last {x y : List Ent} {K : List Int} {id : Int} (hid : id ∈ K) : lastF eid (applySh y (planF x y K K.length)) id = (match shF x y id with | [] => lastF eid y id | s :: _ => (lastF eid y id).map (movE · s)) := by
 have hn := planF_nodup (x := x) (y := y) (K := K) (Nat.le_refl K.length)
 have hmem := fun s => planF_mem (x := x) (y := y) (K := K) (Nat.le_refl K.length) s
 obtain ⟨h1, h2⟩ := last_fold (planF x y K K.length) (snapF eid y) id (snap_rises eid y) hn
 rw [snap_last_eq] at h1 h2
 unfold applySh
 cases hs : shF x y id with
 | nil =>
  refine h2 (fun s hs' e => ?_)
  have := ((hmem s).1 hs').2
  rw [e, hs] at this
  cases this
 | cons s r =>
  have hm : s ∈ shF x y id := by rw [hs];simp
  have he := shF_id hm
  exact h1 s ((hmem s).2 ⟨by rw [he, List.take_length];exact hid, by rw [he];exact hm⟩) he
end Go.Proofs.YtbpkddpkcnlmhaaGreat
namespace Go.Proofs.YtbpkddpkcnlmhaaGreat
section
variable {D : DomP} {m : Nat} {ks : List Int} {K : Nat}
theorem FkD.tree (h : FkD D m ks K) : cnS (trN D.f 0) = ks.length + 2 ∧ ∀ i ∈ ks, InT i (trN D.f 0) := by
 obtain ⟨r, hr, r1, r2, r3⟩ := h.root
 obtain ⟨u, hu, u1, u2, u3⟩ := h.ul
 have hA := h.wf.wf.accD
 have hk : ∀ i ∈ ks, cnS (trN D.f i) = 1 ∧ InT i (trN D.f i) := fun i hi => by
  obtain ⟨n, hn, n1, n2, n3⟩ := h.li i (h.mem i hi).1 (h.mem i hi).2
  have en : n.id = i := fnd_id hn
  rw [trN_some hA hn, n2, en]
  exact ⟨by simp [cnS, cnL], .here⟩
 have hl : ∀ l : List Int, (∀ i ∈ l, i ∈ ks) → cnL (l.map (trN D.f)) = l.length := by
  intro l
  induction l with
  | nil => intro _;rfl
  | cons x l ih =>
   intro hx
   simp only [List.map_cons, cnL, List.length_cons]
   rw [(hk x (hx x List.mem_cons_self)).1, ih (fun i hi => hx i (List.mem_cons_of_mem _ hi))]
   omega
 have e1 := trN_some hA hu
 have e0 := trN_some hA hr
 rw [u3] at e1
 rw [r3] at e0
 rw [e0]
 refine ⟨?_, fun i hi => ?_⟩
 ·simp only [List.map_cons, List.map_nil, cnS, cnL]
  rw [e1]
  simp only [cnS]
  rw [hl ks (fun i hi => hi)]
 ·refine .kid (by rw [r1];decide) (List.mem_cons_self) ?_
  rw [e1]
  exact .kid (by rw [u1];decide) (List.mem_map_of_mem hi) (hk i hi).2
noncomputable abbrev layE (D : DomP) : List Ent := snapF eid (plcF (trN D.f 0) 0 0 30)
theorem FkD.laid (h : FkD D m ks K) : (plcF (trN D.f 0) 0 0 30).length ≤ ks.length + 2 ∧ (layE D).length ≤ ks.length + 2 ∧ ∀ i ∈ ks, ∃ e, lastF eid (layE D) i = some e ∧ Pq e.2.1 ∧ Pq e.2.2.1 := by
 obtain ⟨h1, h2⟩ := h.tree
 have hl := plcF_len (trN D.f 0) 0 0 30
 have hs := snap_len eid (plcF (trN D.f 0) 0 0 30)
 refine ⟨by omega, by show (snapF eid (plcF (trN D.f 0) 0 0 30)).length ≤ _;omega, fun i hi => ?_⟩
 obtain ⟨e, he, rfl⟩ := plcF_in (h2 i hi) 0 0 30
 obtain ⟨x, hx⟩ := last_of_mem eid he
 refine ⟨x, by rw [snap_last_eq];exact hx, ?_⟩
 exact plcF_pq _ 0 0 30 pq0 pq0 x (last_mem eid hx)
end
section
variable {x y : List Ent} {K : List Int} {id : Int} {o n : Ent}
theorem fk_back (hid : id ∈ K) (ho : lastF eid x id = some o) (hn : lastF eid y id = some n) (o1 : Pq o.2.1 ∧ Pq o.2.2.1) (n1 : Pq n.2.1 ∧ Pq n.2.2.1) :
  getR (applySh y (planF x y K K.length)) id = (o.2.1, o.2.2.1, n.2.2.2.1, n.2.2.2.2) := by
 obtain ⟨oi, oX, oY, oW, oH⟩ := o
 obtain ⟨ni, nX, nY, nW, nH⟩ := n
 simp only at o1 n1
 have e1 : subF oX nX = oX - nX := by unfold subF satF;omega
 have e2 : subF oY nY = oY - nY := by unfold subF satF;omega
 unfold getR
 rw [back_last hid]
 unfold shF
 rw [ho, hn]
 simp only [e1, e2]
 by_cases hz : oX - nX ≠ 0 ∨ oY - nY ≠ 0
 ·rw [if_pos hz]
  simp only [Option.map_some, Option.getD_some, movE, Prod.mk.injEq, and_true]
  constructor
  ·unfold addF satF;omega
  ·unfold addF satF;omega
 ·rw [if_neg hz]
  simp only [Option.getD_some, Prod.mk.injEq, and_true]
  constructor <;> omega
theorem fk_count {i : Nat} (hi : K[i]? = some id) (hd : K.Nodup) (ho : lastF eid x id = some o) (hn : lastF eid y id = some n) (o1 : Pq o.2.1 ∧ Pq o.2.2.1) (n1 : Pq n.2.1 ∧ Pq n.2.2.1) :
  (planF x y K (i + 1)).length = (planF x y K i).length + if o.2.1 ≠ n.2.1 ∨ o.2.2.1 ≠ n.2.2.1 then 1 else 0 := by
 have hni : id ∉ K.take i := (nodup_drop hd hi).2.1
 rw [planF_succ hi, if_neg hni, List.length_append]
 obtain ⟨oi, oX, oY, oW, oH⟩ := o
 obtain ⟨ni, nX, nY, nW, nH⟩ := n
 simp only at o1 n1
 have e1 : subF oX nX = oX - nX := by unfold subF satF;omega
 have e2 : subF oY nY = oY - nY := by unfold subF satF;omega
 unfold shF
 rw [ho, hn]
 simp only [e1, e2]
 by_cases hz : oX ≠ nX ∨ oY ≠ nY
 ·rw [if_pos hz, if_pos (by omega)]
  rfl
 ·rw [if_neg hz, if_neg (by omega)]
  rfl
end
end Go.Proofs.YtbpkddpkcnlmhaaGreat
namespace Go.Proofs.YtbpkddpkcnlmhaaGreat
open Go.RowKit
set_option maxRecDepth 100000
attribute [local irreducible] Go.Code.wpIn Go.wpListIn Go.Calls Gives Go.Exit.then Go.Exit.inBlock Done ObxE
theorem lof6_any (t : STree) (h : SnH) (wd : Int) (w0 : World) (hf : SFits t) (hl : (plcF t 0 0 wd).length ≤ 1000) (hr : SrR w0 t h) : Calls Tryz.prog 30 #[snV h, .int .i64 wd] w0 (Ret fun v w => St w0 [OwT 90 (snapF eid (plcF t 0 0 wd)) v] w) := by
 have hr0 := hr
 obtain ⟨id, k, tag, text, cl, al, sl, kids, a1, m1, a2, m2, a3, m3, a4, m4, H, rfl, rfl, c1, c2, c3, c4, hF⟩ := hr.split
 show Calls Tryz.prog 30 #[.agg #[.int .i64 id, .int .i64 k, .string tag, .string text, .slice a1 cl.length m1, .slice a2 al.length m2, .slice a3 sl.length m3, .slice a4 H.length m4], .int .i64 wd] w0 _
 refine enter Tryz.func30 rfl Tryz.ntmps30 rfl (fun a hk => ?_);have hS := St.refl w0
 refine wpIn_seq ?_;refine wpIn_region_lit ?_
 refine st_box hk hS ?_;clear hk hS a;intro w b2 hS a hk
 (repeat' (first|((first|refine wx1 ?_|refine wx2 ?_ ?_<;>intro hp|refine s_end hk ?_)<;>(clear hk a;intro a hk))|((first|refine wx3 ?_;intro w b|refine wx4 ?_;intro w|refine wx5 ?_;intro w v);clear hk hS a;intro hS a hk)|refine wx0 ?_|fail))
 rename Nat => b5
 replace hS := hS.nilT 90 Ent
 have hS1 : St w0 (entH b5 [] :: pts b2 [.int .i64 id, .int .i64 k, .string tag, .string text, .slice a1 cl.length m1, .slice a2 al.length m2, .slice a3 sl.length m3, .slice a4 H.length m4] 77 :: []) w := entH.of (y := (none, 0)) (hS.sub (L' := pts b5 [.slice none 0 0] 38 :: OwT 90 ([] : List Ent) (.slice none 0 0) :: pts b2 [.int .i64 id, .int .i64 k, .string tag, .string text, .slice a1 cl.length m1, .slice a2 al.length m2, .slice a3 sl.length m3, .slice a4 H.length m4] 77 :: []) (.cons atx (.cons atx (.cons atx sbx))))
 clear hS
 have hS := hS1
 clear hS1
 refine sg hk (g_callO hk (hf := by kernel_rfl) (hc := plc6_any (bl := b5) _ (.mk id k tag text cl al sl kids) (id, k, tag, text, ⟨a1, cl.length, m1⟩, ⟨a2, al.length, m2⟩, ⟨a3, sl.length, m3⟩, ⟨a4, H.length, m4⟩) 0 0 wd [] _ _ _ (Nat.lt_succ_self _) hf hr0 (by simpa using hl) hS) (h := ?_));clear hk hS a;intro _ w hS a hk
 rw [List.nil_append] at hS
 obtain ⟨ao, co, hS1⟩ := hS.ent (bl := b5) (acc := plcF (.mk id k tag text cl al sl kids) 0 0 wd) .here
 clear hS
 have hS := hS1
 clear hS1
 generalize plcF (.mk id k tag text cl al sl kids) 0 0 wd = E at *
 simp only [entL, List.cons_append, List.nil_append] at hS
 (repeat' (first|((first|refine wx1 ?_|refine wx2 ?_ ?_<;>intro hp|refine s_end hk ?_)<;>(clear hk a;intro a hk))|((first|refine wx3 ?_;intro w b|refine wx4 ?_;intro w|refine wx5 ?_;intro w v);clear hk hS a;intro hS a hk)|refine wx0 ?_|fail))
 refine sg hk (g_callO hk (hf := by kernel_rfl) (hc := snapOf_any E _ _ (OwT.rd (hS.rd (A := OwT 90 E (.slice ao E.length co)) atx)) hl) (h := ?_));clear hk a;rintro vs w hS1 a hk;replace hS := hS.call hS1;clear hS1
 (repeat' (first|((first|refine wx1 ?_|refine wx2 ?_ ?_<;>intro hp|refine s_end hk ?_)<;>(clear hk a;intro a hk))|((first|refine wx3 ?_;intro w b|refine wx4 ?_;intro w|refine wx5 ?_;intro w v);clear hk hS a;intro hS a hk)|refine wx0 ?_|fail))
 exact done1 hk (h := hS.sub (by (repeat (first | exact Sub.nil | exact Sub.refl | refine Sub.cons atx ?_))))
theorem ldom6_any {bd bm : Nat} {bl : Int → Nat} {D : DomP} (hW : WfD D) (hb : Bnd 100 D) (wd : Int) {n : NodeP} (hn : D.f 0 = some n) (hl : (plcF (trN D.f 0) 0 0 wd).length ≤ 1000) (w0 : World) (hDR : DomR bd D bm bl w0) :
  Calls Tryz.prog 11 #[pA bd, .int .i64 wd] w0 (Ret fun v w => St w0 [OwT 90 (snapF eid (plcF (trN D.f 0) 0 0 wd)) v] w) := by
 have hf := trN_fits hW hb 0
 refine enter Tryz.func11 rfl Tryz.ntmps11 rfl (fun a hk => ?_);have hS := St.refl w0
 (repeat' (first|((first|refine wx1 ?_|refine wx2 ?_ ?_<;>intro hp|refine s_end hk ?_)<;>(clear hk a;intro a hk))|((first|refine wx3 ?_;intro w b|refine wx4 ?_;intro w|refine wx5 ?_;intro w v);clear hk hS a;intro hS a hk)|refine wx0 ?_|fail))
 refine sg hk (g_callO hk (hf := by kernel_rfl) (hc := read5_any hW hb (by decide) 0 n _ hn (hDR.mono hS.below)) (h := ?_));clear hk a;rintro vr w ⟨h, rfl, hS1⟩ a hk;replace hS := hS.call hS1;clear hS1
 obtain ⟨id, k, tag, text, ⟨x1, x2, x3⟩, ⟨y1, y2, y3⟩, ⟨z1, z2, z3⟩, ⟨u1, u2, u3⟩⟩ := h
 (repeat' (first|((first|refine wx1 ?_|refine wx2 ?_ ?_<;>intro hp|refine s_end hk ?_)<;>(clear hk a;intro a hk))|((first|refine wx3 ?_;intro w b|refine wx4 ?_;intro w|refine wx5 ?_;intro w v);clear hk hS a;intro hS a hk)|refine wx0 ?_|fail))
 refine sg hk (g_callO hk (hf := by kernel_rfl) (hc := lof6_any _ (id, k, tag, text, ⟨x1, x2, x3⟩, ⟨y1, y2, y3⟩, ⟨z1, z2, z3⟩, ⟨u1, u2, u3⟩) wd _ hf hl (hS.srR atx)) (h := ?_));clear hk a;rintro vs w hS1 a hk;replace hS := hS.call hS1;clear hS1
 (repeat' (first|((first|refine wx1 ?_|refine wx2 ?_ ?_<;>intro hp|refine s_end hk ?_)<;>(clear hk a;intro a hk))|((first|refine wx3 ?_;intro w b|refine wx4 ?_;intro w|refine wx5 ?_;intro w v);clear hk hS a;intro hS a hk)|refine wx0 ?_|fail))
 exact done1 hk (h := hS.sub (by (repeat (first | exact Sub.nil | exact Sub.refl | refine Sub.cons atx ?_))))
end Go.Proofs.YtbpkddpkcnlmhaaGreat
