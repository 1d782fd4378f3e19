/- The top (grown): a view that is written is read, and grown node by node; what was done there, done again elsewhere, comes to the same nodes. -/
import Derived.Test.YtnjmonkehjlaoaaGreatDoorG12
import Derived.Test.YtnjmonkehjlaoaaGreatDoorG13
import Derived.Test.YtnjmonkehjlaoaaGreatDoorG15
import Derived.Test.YtnjmonkehjlaoaaGreatDoorG16
import Derived.Test.YtnjmonkehjlaoaaGreatDoorG23
import Derived.Test.YtnjmonkehjlaoaaGreatDoorG09
import Derived.Test.YtnjmonkehjlaoaaGreatDoorRows
import Derived.Lay
import Derived.SevenTiedAt
set_option linter.all false
namespace Go.Proofs.YtnjmonkehjlaoaaGreatDoor
open Go.RowKit
theorem ParseR.flatG {B : Bs} {L : List HP} {r : Rd Tree} {v : Value} {w : World} (h : ParseR B L r v w) : ParA B L r v w := by
 cases r with
 | ok t j =>
  obtain ⟨u, hv, hS⟩ := h
  obtain ⟨hd, hu, hS2⟩ := St.tree hS .here
  subst hu
  exact ⟨hd, hv, hS2⟩
 | no p e =>
  obtain ⟨rfl, hS⟩ := h
  exact ⟨noN, rfl, St.noTree hS⟩
theorem parT_sc {s : ByteArray} (hs : s.size ≤ 1000) : FitsW (parT (parseF s)).1 ∧ Siz 1000 (parT (parseF s)).1 ∧ cnt (parT (parseF s)).1 ≤ 1000 := by
 cases h : parseF s with
 | ok t j =>
  obtain ⟨h1, h2⟩ := parse_sc hs h
  obtain ⟨h3, h4⟩ := snap_sc h1
  exact ⟨fitw_snap (parse_fits hs h), h3, by show cnt (snapT t) ≤ 1000;omega⟩
 | no p e => exact ⟨noT_fit, .mk (Nat.zero_le _) (Nat.zero_le _) (Nat.zero_le _) (fun x hx => by cases hx) (fun x hx => by cases hx) (fun x hx => by cases hx) (fun x hx => by cases hx), by show cnt noT ≤ 1000;decide⟩
theorem siz_upG {X Y : Nat} {t : Tree} (h : Siz X t) (hXY : X ≤ Y) : Siz Y t := by
 induction h with
 | mk h1 h2 h3 h4 h5 h6 _ ih => exact .mk (by omega) (by omega) (by omega) (fun c hc => by have := h4 c hc;omega) (fun x hx => by have := h5 x hx;omega) (fun x hx => by have := h6 x hx;omega) ih
def gr1 : ByteArray := ⟨#[40, 112, 32, 39, 97, 39, 41]⟩
abbrev gr1T : Tree := .mk 2 ⟨#[112]⟩ ⟨#[]⟩ ⟨#[]⟩ [] [] [] o0 [.mk 1 ⟨#[]⟩ ⟨#[]⟩ ⟨#[97]⟩ [] [] [] o0 []]
theorem gr1_is : parT (parseF gr1) = (gr1T, 0, 0) := by kernel_rfl
def growH (bl bd : Nat) (P : DomP → List OpP → Prop) : HP := bagH (fun y : DomP × List OpP => [domH bd y.1, trailH bl bd y.2]) (fun y => P y.1 y.2)
section
variable {B : Bs} {w : World} {L L' : List HP} {bl bd : Nat} {P : DomP → List OpP → Prop}
theorem growH.of {D : DomP} {ops : List OpP} (hp : P D ops) (hS : St B (domH bd D :: trailH bl bd ops :: L) w) : St B (growH bl bd P :: L) w := bagH.of (A := fun y : DomP × List OpP => [domH bd y.1, trailH bl bd y.2]) (x := (D, ops)) hS hp
theorem St.growG (hS : St B L w) (hat : At (growH bl bd P) L L') : ∃ D ops, P D ops ∧ St B (domH bd D :: trailH bl bd ops :: L') w := by
 obtain ⟨⟨D, ops⟩, hp, h⟩ := St.bag hS hat
 exact ⟨D, ops, hp, h⟩
theorem growH.get (h : (growH bl bd P).rd w) : ∃ D ops, P D ops ∧ (domH bd D).rd w ∧ (trailH bl bd ops).rd w := by
 obtain ⟨⟨D, ops⟩, hp, F, h⟩ := bagH.rd h
 exact ⟨D, ops, hp, h.rd .here, h.rd (.there .here)⟩
end
set_option maxRecDepth 100000
attribute [local irreducible] Go.Code.wpIn Go.wpListIn Go.Calls Gives Go.Exit.then Go.Exit.inBlock Done ObxE
set_option maxHeartbeats 32000000 in
theorem grown_any (s : ByteArray) (w0 : World) (ht : TabW w0) :
  Calls Tryz.prog 3 #[.string s] w0 (Ret fun v w => v = .bool true ∧ St w0 [] w) := by
 have hc := cutF_len s 600
 refine enter Tryz.func3 rfl Tryz.ntmps3 rfl (fun a hk => ?_);have hS := St.refl w0
 (repeat' (first|((first|refine wx1 ?_|refine wx2 ?_ ?_<;>intro hp|refine s_end hk ?_)<;>(clear hk a;intro a hk))|((first|refine wx3 ?_;intro w b|refine wx4 ?_;intro w|refine wx5 ?_;intro w v);clear hk hS a;intro hS a hk)|refine wx0 ?_|fail))
 refine sg hk (g_callO hk (hf := by kernel_rfl) (hc := parseL_any gr1 (by show (7 : Nat) ≤ _;omega) hS) (h := ?_));clear hk hS a;intro vr w hS a hk
 obtain ⟨⟨k0, tag0, key0, text0, ⟨x10, x20, x30⟩, ⟨y10, y20, y30⟩, ⟨z10, z20, z30⟩, ⟨e0, lv0, m0, d0, p0, q0⟩, ⟨u10, u20, u30⟩⟩, rfl, hS1⟩ := ParseR.flatG hS
 clear hS
 have hS := hS1
 clear hS1
 rw [gr1_is] at hS hk
 simp only at hS hk
 (repeat' (first|((first|refine wx1 ?_|refine wx2 ?_ ?_<;>intro hp|refine s_end hk ?_)<;>(clear hk a;intro a hk))|((first|refine wx3 ?_;intro w b|refine wx4 ?_;intro w|refine wx5 ?_;intro w v);clear hk hS a;intro hS a hk)|refine wx0 ?_|fail))
 refine sg hk (g_callO hk (hf := by kernel_rfl) (hc := size_any gr1T (k0, tag0, key0, text0, ⟨x10, x20, x30⟩, ⟨y10, y20, y30⟩, ⟨z10, z20, z30⟩, (e0, lv0, m0, d0, p0, q0), ⟨u10, u20, u30⟩) _ ⟨.mk (by decide) (by decide) (by decide) (by decide) (fun x hx => by rw [List.mem_singleton] at hx;subst hx;exact .mk (by decide) (by decide) (by decide) (by decide) (fun x hx => by cases hx)), by decide⟩ (hS.trR atx)) (h := ?_));clear hk a;rintro _ w ⟨rfl, hS1⟩ a hk;replace hS := hS.call0 hS1;clear hS1
 rw [show ((cnt gr1T : Nat) : Int) = 2 from rfl] at hk
 (repeat' (first|((first|refine wx1 ?_|refine wx2 ?_ ?_<;>intro hp|refine s_end hk ?_)<;>(clear hk a;intro a hk))|((first|refine wx3 ?_;intro w b|refine wx4 ?_;intro w|refine wx5 ?_;intro w v);clear hk hS a;intro hS a hk)|refine wx0 ?_|fail))
 refine sg hk (g_callO hk (hf := by kernel_rfl) (hc := cut_any s 600 _) (h := ?_));clear hk a;rintro _ w ⟨rfl, hS1⟩ a hk;replace hS := hS.call0 hS1;clear hS1
 generalize cutF s 600 = s0 at *
 obtain ⟨hfit, hsz, hcn⟩ := parT_sc (s := s0) (by omega)
 replace hS := hS.nil
 (repeat' (first|((first|refine wx1 ?_|refine wx2 ?_ ?_<;>intro hp|refine s_end hk ?_)<;>(clear hk a;intro a hk))|((first|refine wx3 ?_;intro w b|refine wx4 ?_;intro w|refine wx5 ?_;intro w v);clear hk hS a;intro hS a hk)|refine wx0 ?_|fail))
 refine sg hk (g_callO hk (hf := by kernel_rfl) (hc := parseL_any s0 (by omega) hS) (h := ?_));clear hk hS a;intro vr w hS a hk
 obtain ⟨⟨k1, tag1, key1, text1, ⟨x11, x21, x31⟩, ⟨y11, y21, y31⟩, ⟨z11, z21, z31⟩, ⟨e1, lv1, m1, d1, p1, q1⟩, ⟨u11, u21, u31⟩⟩, rfl, hS1⟩ := ParseR.flatG hS
 clear hS
 have hS := hS1
 clear hS1
 (repeat' (first|((first|refine wx1 ?_|refine wx2 ?_ ?_<;>intro hp|refine s_end hk ?_)<;>(clear hk a;intro a hk))|((first|refine wx3 ?_;intro w b|refine wx4 ?_;intro w|refine wx5 ?_;intro w v);clear hk hS a;intro hS a hk)|refine wx0 ?_|fail))
 rename Nat => b6
 refine sg hk (g_callO hk (hf := by kernel_rfl) (hc := rparse8_any s0 (by omega) _ _ _ ht hS) (h := ?_));clear hk hS a;intro vr w hS a hk
 obtain ⟨⟨k2, tag2, key2, text2, ⟨x12, x22, x32⟩, ⟨y12, y22, y32⟩, ⟨z12, z22, z32⟩, ⟨e2, lv2, m2, d2, p2, q2⟩, ⟨u12, u22, u32⟩⟩, rfl, hS1⟩ := hS
 have hS := hS1
 clear hS1
 generalize parT (parseF s0) = P at *
 obtain ⟨T, p, e⟩ := P
 simp only at hS hk hfit hsz hcn
 obtain ⟨g1, hx1, hr1, hS1⟩ := hS.freeze (A := treeR T (k1, tag1, key1, text1, ⟨x11, x21, x31⟩, ⟨y11, y21, y31⟩, ⟨z11, z21, z31⟩, (e1, lv1, m1, d1, p1, q1), ⟨u11, u21, u31⟩)) atx
 obtain ⟨g2, hx2, hr2, hS2⟩ := hS1.freeze (A := treeR T (k2, tag2, key2, text2, ⟨x12, x22, x32⟩, ⟨y12, y22, y32⟩, ⟨z12, z22, z32⟩, (e2, lv2, m2, d2, p2, q2), ⟨u12, u22, u32⟩)) atx
 clear hS hS1
 have hS := hS2
 clear hS2
 have hT1 : TrR g2 T (k1, tag1, key1, text1, ⟨x11, x21, x31⟩, ⟨y11, y21, y31⟩, ⟨z11, z21, z31⟩, (e1, lv1, m1, d1, p1, q1), ⟨u11, u21, u31⟩) := (rdH.rd (TrR.stays _ _) hr1).frz hx2.1
 have hT2 : TrR g2 T (k2, tag2, key2, text2, ⟨x12, x22, x32⟩, ⟨y12, y22, y32⟩, ⟨z12, z22, z32⟩, (e2, lv2, m2, d2, p2, q2), ⟨u12, u22, u32⟩) := rdH.rd (TrR.stays _ _) hr2
 clear hr1 hr2 hx1 hx2
 have hck : ∀ w, TrR w T (k1, tag1, key1, text1, ⟨x11, x21, x31⟩, ⟨y11, y21, y31⟩, ⟨z11, z21, z31⟩, (e1, lv1, m1, d1, p1, q1), ⟨u11, u21, u31⟩) → _ := fun w h => Check7_any T _ 20 300 w hfit (siz_upG hsz (by omega)) (by omega) h
 have hrk : ∀ w, TrR w T (k2, tag2, key2, text2, ⟨x12, x22, x32⟩, ⟨y12, y22, y32⟩, ⟨z12, z22, z32⟩, (e2, lv2, m2, d2, p2, q2), ⟨u12, u22, u32⟩) → _ := fun w h => rCheck_any T _ 20 300 w hfit hsz (by omega) h
 have hch : chk7 T 20 300 = (chkT T 1 20 300).1 := rfl
 rw [hch] at hck
 rw [show (max 1 (min (20 : Int) 20)) = 20 from rfl, show (max 1 (min (300 : Int) 4096)) = 300 from rfl] at hrk
 clear hch
 have hgr := chkT_gr _ T 1 20 300 (Nat.lt_succ_self _)
 generalize (chkT T 1 20 300).1 = ce at *
 by_cases he : e = 0
 ·by_cases hc0 : ce = 0
  ·obtain ⟨hG, hl1, hl2⟩ := hgr hc0
   have hcn3 : cnt T ≤ 300 := by omega
   clear hl1 hl2 hgr
   (repeat' (first|((first|refine wx1 ?_|refine wx2 ?_ ?_<;>intro hp|refine s_end hk ?_)<;>(clear hk a;intro a hk))|((first|refine wx3 ?_;intro w b|refine wx4 ?_;intro w|refine wx5 ?_;intro w v);clear hk hS a;intro hS a hk)|refine wx0 ?_|fail))
   refine sg hk (g_callO hk (hf := by kernel_rfl) (hc := hck _ (hS.rdTr hT1)) (h := ?_));clear hk a;rintro _ w ⟨rfl, hS1⟩ a hk;replace hS := hS.call0 hS1;clear hS1
   rename Nat => b9
   (repeat' (first|((first|refine wx1 ?_|refine wx2 ?_ ?_<;>intro hp|refine s_end hk ?_)<;>(clear hk a;intro a hk))|((first|refine wx3 ?_;intro w b|refine wx4 ?_;intro w|refine wx5 ?_;intro w v);clear hk hS a;intro hS a hk)|refine wx0 ?_|fail))
   have hP7 : P7 T := ⟨hfit, by omega⟩
   refine sg hk (g_callO hk (hf := by kernel_rfl) (hc := new5_any 300 _) (h := ?_));clear hk a;rintro vr w ⟨bd, rfl, hS1⟩ a hk;replace hS := hS.call hS1;clear hS1
   rw [List.cons_append, List.nil_append] at hS
   (repeat' (first|((first|refine wx1 ?_|refine wx2 ?_ ?_<;>intro hp|refine s_end hk ?_)<;>(clear hk a;intro a hk))|((first|refine wx3 ?_;intro w b|refine wx4 ?_;intro w|refine wx5 ?_;intro w v);clear hk hS a;intro hS a hk)|refine wx0 ?_|fail))
   refine sg hk (g_callO hk (hf := by kernel_rfl) (hc := on6_any bd _) (h := ?_));clear hk a;rintro vr w ⟨bl, rfl, hS1⟩ a hk;replace hS := hS.call hS1;clear hS1
   rw [List.cons_append, List.nil_append] at hS
   (repeat' (first|((first|refine wx1 ?_|refine wx2 ?_ ?_<;>intro hp|refine s_end hk ?_)<;>(clear hk a;intro a hk))|((first|refine wx3 ?_;intro w b|refine wx4 ?_;intro w|refine wx5 ?_;intro w v);clear hk hS a;intro hS a hk)|refine wx0 ?_|fail))
   have hS1 : St ⟨g2, w0⟩ (growH bl bd (fun D ops => D = newP 300 ∧ ops = []) :: pts b9 [.int .i64 k2, .string tag2, .string key2, .string text2, .slice x12 x22 x32, .slice y12 y22 y32, .slice z12 z22 z32, .int .i64 e2, .int .i64 lv2, .int .i64 m2, .int .i64 d2, .bool p2, .bool q2, .slice u12 u22 u32] 42 :: pts b6 [.int .i64 k1, .string tag1, .string key1, .string text1, .slice x11 x21 x31, .slice y11 y21 y31, .slice z11 z21 z31, .int .i64 e1, .int .i64 lv1, .int .i64 m1, .int .i64 d1, .bool p1, .bool q1, .slice u11 u21 u31] 31 :: []) w := growH.of ⟨rfl, rfl⟩ (hS.sub (.cons atx (.cons atx (.cons atx (.cons atx sbx)))))
   clear hS
   have hS := hS1
   clear hS1
   refine wp_drawnU1 16 mixed (by kernel_rfl) hk hS ?_;clear hk hS a
   (repeat' (first|(show ObxE _ _ _ _ _ _ _ _ _ (_::_) _ _ _;first|refine ox1 ?_|refine ox2 ?_ ?_<;>intro hp)|fail))
   refine' obe_upd (growH bl bd (fun D ops => D = newP 300 ∧ ops = [])) (V := fun v => growH bl bd (fun D ops => v = .int .i64 (cnt T) ∧ GrO (newP 300) (newP 300) [] 0 rootP 1 (cnt T) 0 D ops)) (fun us a w X hk hd hS hL => ?_) ?_
   ·have hk := Kn.vw hk vwx
    obtain ⟨D, ops, ⟨rfl, rfl⟩, hS1⟩ := hS.growG .here
    refine g_callO hk (hf := by kernel_rfl) (hc := grow_any (D0 := newP 300) _ T (k1, tag1, key1, text1, ⟨x11, x21, x31⟩, ⟨y11, y21, y31⟩, ⟨z11, z21, z31⟩, (e1, lv1, m1, d1, p1, q1), ⟨u11, u21, u31⟩) (newP 300) [] 0 0 rootP _ _ _ (Nat.lt_succ_self _) hG hfit hT1 (newP_wf 300) (newP_bnd 300 0) (by omega) (by decide) (by show 1 + cnt T ≤ 301;omega) (by rfl) rfl rfl (fun o ho => by cases ho) (by simp only [List.length_nil];omega) hS1) (h := ?_)
    rintro v w' ⟨rfl, D', ops', hG', hS'⟩
    exact growH.of ⟨rfl, hG'⟩ hS'
   (repeat' (first|(show ObxE _ _ _ _ _ _ _ _ _ (_::_) _ _ _;first|refine ox1 ?_|refine ox2 ?_ ?_<;>intro hp)|fail))
   refine' obe_val (fun us a w hk hd hS => ?_) ?_;rotate_left;focus (have hk := Kn.vw hk vwx;exact g_callO hk (hf := by kernel_rfl) (hc := size_any T (k1, tag1, key1, text1, ⟨x11, x21, x31⟩, ⟨y11, y21, y31⟩, ⟨z11, z21, z31⟩, (e1, lv1, m1, d1, p1, q1), ⟨u11, u21, u31⟩) _ hP7 (hS.rdTr hT1)) (h := fun _ _ h => h))
   refine' obe_fn [2] (fun _ => .bool false) (fun us a w hk hd hS => ?_) ?_ (by intro k e;simp only [List.mem_cons, List.not_mem_nil, or_false] at e;subst e;exact ⟨63, _, rfl, rfl⟩)
   ·have hk := Kn.vw hk vwx
    obtain ⟨D, ops, ⟨e, -⟩, -⟩ := growH.get hd.1
    rw [e] at hk
    exact g_neiF hk (same _ _) (hpq := rfl)
   refine' obe_via 66 2 (fun _ => .bool false) (fun us a w hk hd2 hS => ?_) ?_
   ·have hk := Kn.vw hk vwx
    exact g_move hk (same _ _)
   (repeat' (first|(show ObxE _ _ _ _ _ _ _ _ _ (_::_) _ _ _;first|refine ox1 ?_|refine ox2 ?_ ?_<;>intro hp)|fail))
   refine' obe_val2 (c := pA bd) (fun us a w hk hd hd2 hS => ?_) ?_
   ·have hk := Kn.vw hk vwx
    obtain ⟨D, ops, -, -, hT⟩ := growH.get (hd2 67 (by decide) _ _ rfl 2 (by simp [HV.srcs]) _ _ (lkE_mem (t := 63) rfl) _ rfl)
    obtain ⟨ao, c, ht1, -⟩ := trailH.get hT
    exact g_var1 hk (same _ _) (aT rfl) (hb := ht1)
   refine' obe_val2 (c := .int .i64 (cnt T)) (fun us a w hk hd hd2 hS => ?_) ?_
   ·have hk := Kn.vw hk vwx
    obtain ⟨D, ops, ⟨-, hG'⟩, hD, -⟩ := growH.get (hd2 67 (by decide) _ _ rfl 2 (by simp [HV.srcs]) _ _ (lkE_mem (t := 63) rfl) _ rfl)
    obtain ⟨bm, bb, hDR⟩ := domH.get hD
    have hl := hG'.len
    rw [show (newP 300).l.length = 1 from rfl] at hl
    refine gives_eq (c := .int .i64 ((D.l.length : Int) - 1)) (by rw [hl];congr 1;omega) ?_
    exact g_callO hk (hf := by kernel_rfl) (hc := count5_any _ hDR (by omega)) (h := fun _ _ h => h)
   (repeat' (first|(show ObxE _ _ _ _ _ _ _ _ _ (_::_) _ _ _;first|refine ox1 ?_|refine ox2 ?_ ?_<;>intro hp)|fail))
   refine' obe_val (fun us a w hk hd hS => ?_) ?_;rotate_left;focus (have hk := Kn.vw hk vwx;exact g_callO hk (hf := by kernel_rfl) (hc := rsize_any _ T (k2, tag2, key2, text2, ⟨x12, x22, x32⟩, ⟨y12, y22, y32⟩, ⟨z12, z22, z32⟩, (e2, lv2, m2, d2, p2, q2), ⟨u12, u22, u32⟩) _ (Nat.lt_succ_self _) hP7 (hS.rdTr hT2)) (h := fun _ _ h => h))
   (repeat' (first|(show ObxE _ _ _ _ _ _ _ _ _ (_::_) _ _ _;first|refine ox1 ?_|refine ox2 ?_ ?_<;>intro hp)|fail))
   refine obe_nil ⟨rfl, ?_⟩;intro us a w hk hS
   simp only [resE, List.cons_append, List.nil_append, Nat.zero_add, Nat.reduceAdd] at hS
   replace hk := Kn.kp [6, 12, 76] hk
   simp only [HV.of, Nat.zero_add, Nat.reduceAdd] at hk
   obtain ⟨D, ops, ⟨-, hG'⟩, hS1⟩ := hS.growG atx
   clear hS
   have hS := hS1
   clear hS1
   have hol := hG'.ol
   have hcn' := hG'.cnt
   have hl := hG'.len
   rw [show (newP 300).l.length = 1 from rfl] at hl
   rw [show cntO [] 3 = 0 from rfl] at hcn'
   simp only [List.length_nil] at hol
   (repeat' (first|((first|refine wx1 ?_|refine wx2 ?_ ?_<;>intro hp|refine s_end hk ?_)<;>(clear hk a;intro a hk))|((first|refine wx3 ?_;intro w b|refine wx4 ?_;intro w|refine wx5 ?_;intro w v);clear hk hS a;intro hS a hk)|refine wx0 ?_|fail))
   refine sg hk (g_callO hk (hf := by kernel_rfl) (hc := new5_any 300 _) (h := ?_));clear hk a;rintro vr w ⟨bd2, rfl, hS1⟩ a hk;replace hS := hS.call hS1;clear hS1
   rw [List.cons_append, List.nil_append] at hS
   (repeat' (first|((first|refine wx1 ?_|refine wx2 ?_ ?_<;>intro hp|refine s_end hk ?_)<;>(clear hk a;intro a hk))|((first|refine wx3 ?_;intro w b|refine wx4 ?_;intro w|refine wx5 ?_;intro w v);clear hk hS a;intro hS a hk)|refine wx0 ?_|fail))
   refine sg hk (g_callO hk (hf := by kernel_rfl) (hc := ops6_any _ (by omega) (hS.rd (A := trailH bl bd ops) atx)) (h := ?_));clear hk a;rintro vo w hS1 a hk;replace hS := hS.call hS1;clear hS1
   rw [List.cons_append, List.nil_append] at hS
   (repeat' (first|((first|refine wx1 ?_|refine wx2 ?_ ?_<;>intro hp|refine s_end hk ?_)<;>(clear hk a;intro a hk))|((first|refine wx3 ?_;intro w b|refine wx4 ?_;intro w|refine wx5 ?_;intro w v);clear hk hS a;intro hS a hk)|refine wx0 ?_|fail))
   refine sg hk (g_callO hk (hf := by kernel_rfl) (hc := replay6_any ops vo (newP_wf 300) (newP_bnd 300 0) hG'.run hG'.ok (by omega) (hS.sub (L' := domH bd2 (newP 300) :: OwT 97 ops vo :: domH bd D :: trailH bl bd ops :: pts b6 [.int .i64 k1, .string tag1, .string key1, .string text1, .slice x11 x21 x31, .slice y11 y21 y31, .slice z11 z21 z31, .int .i64 e1, .int .i64 lv1, .int .i64 m1, .int .i64 d1, .bool p1, .bool q1, .slice u11 u21 u31] 31 :: []) (.cons atx (.cons atx (.cons atx (.cons atx (.cons atx sbx))))))) (h := ?_));clear hk hS a;rintro _ w ⟨rfl, hS⟩ a hk
   have hpl := pre_len hG'.wf 0
   (repeat' (first|((first|refine wx1 ?_|refine wx2 ?_ ?_<;>intro hp|refine s_end hk ?_)<;>(clear hk a;intro a hk))|((first|refine wx3 ?_;intro w b|refine wx4 ?_;intro w|refine wx5 ?_;intro w v);clear hk hS a;intro hS a hk)|refine wx0 ?_|fail))
   refine wp_drawn 37 mixed (by kernel_rfl) hk hS ?_;clear hk hS a
   (repeat' (first|(show ObxE _ _ _ _ _ _ _ _ _ (_::_) _ _ _;first|refine ox1 ?_|refine ox2 ?_ ?_<;>intro hp)|fail))
   refine' obe_res (fun us a w hk hd hS => ?_) ?_;rotate_left;focus (have hk := Kn.vw hk vwx;exact g_callO hk (hf := by kernel_rfl) (hc := ops6_any _ (by omega) (hS.rd (A := trailH bl bd ops) atx)) (h := fun _ _ h => h))
   refine' obe_val (fun us a w hk hd hS => ?_) ?_;rotate_left;focus (have hk := Kn.vw hk vwx;exact g_lenT hk (same _ _) (ht := eT rfl) (hs := OwT.rd hd.1))
   (repeat' (first|(show ObxE _ _ _ _ _ _ _ _ _ (_::_) _ _ _;first|refine ox1 ?_|refine ox2 ?_ ?_<;>intro hp)|fail))
   refine' obe_val (c := .int .i64 (cnt T)) (fun us a w hk hd hS => ?_) ?_
   ·have hk := Kn.vw hk vwx
    obtain ⟨bm, bb, hDR⟩ := domH.get (hS.rd (A := domH bd2 D) atx)
    refine gives_eq (c := .int .i64 ((D.l.length : Int) - 1)) (by rw [hl];congr 1;omega) ?_
    exact g_callO hk (hf := by kernel_rfl) (hc := count5_any _ hDR (by omega)) (h := fun _ _ h => h)
   (repeat' (first|(show ObxE _ _ _ _ _ _ _ _ _ (_::_) _ _ _;first|refine ox1 ?_|refine ox2 ?_ ?_<;>intro hp)|fail))
   refine' obe_val (c := pA bd) (fun us a w hk hd hS => ?_) ?_
   ·have hk := Kn.vw hk vwx
    obtain ⟨ao, c, ht1, -⟩ := trailH.get (hS.rd (A := trailH bl bd ops) atx)
    exact g_var1 hk (same _ _) (aT rfl) (hb := ht1)
   refine' obe_val (c := .int .i64 (cnt T)) (fun us a w hk hd hS => ?_) ?_
   ·have hk := Kn.vw hk vwx
    obtain ⟨bm, bb, hDR⟩ := domH.get (hS.rd (A := domH bd D) atx)
    refine gives_eq (c := .int .i64 ((D.l.length : Int) - 1)) (by rw [hl];congr 1;omega) ?_
    exact g_callO hk (hf := by kernel_rfl) (hc := count5_any _ hDR (by omega)) (h := fun _ _ h => h)
   (repeat' (first|(show ObxE _ _ _ _ _ _ _ _ _ (_::_) _ _ _;first|refine ox1 ?_|refine ox2 ?_ ?_<;>intro hp)|fail))
   refine' obe_res (V := fun v => OwT 3 (preN D.f 0) v) (fun us a w hk hd hS => ?_) ?_
   ·have hk := Kn.vw hk vwx
    obtain ⟨bm, bb, hDR⟩ := domH.get (hS.rd (A := domH bd2 D) atx)
    exact g_callO hk (hf := by kernel_rfl) (hc := orderR_any hG'.wf hG'.bnd (by omega) _ hDR) (h := fun _ _ h => h)
   (repeat' (first|(show ObxE _ _ _ _ _ _ _ _ _ (_::_) _ _ _;first|refine ox1 ?_|refine ox2 ?_ ?_<;>intro hp)|fail))
   refine' obe_val (c := pA bd) (fun us a w hk hd hS => ?_) ?_
   ·have hk := Kn.vw hk vwx
    obtain ⟨ao, c, ht1, -⟩ := trailH.get (hS.rd (A := trailH bl bd ops) atx)
    exact g_var1 hk (same _ _) (aT rfl) (hb := ht1)
   refine' obe_res (V := fun v => OwT 3 (preN D.f 0) v) (fun us a w hk hd hS => ?_) ?_
   ·have hk := Kn.vw hk vwx
    obtain ⟨bm, bb, hDR⟩ := domH.get (hS.rd (A := domH bd D) atx)
    exact g_callO hk (hf := by kernel_rfl) (hc := orderR_any hG'.wf hG'.bnd (by omega) _ hDR) (h := fun _ _ h => h)
   refine' obe_val (c := .bool true) (fun us a w hk hd hS => ?_) ?_
   ·have hk := Kn.vw hk vwx
    exact g_callO hk (hf := by kernel_rfl) (hc := nums5_any (preN D.f 0) (by omega) _ _ _ (OwT.rd hd.1) (OwT.rd hd.2.1)) (h := fun _ _ h => h)
   (repeat' (first|(show ObxE _ _ _ _ _ _ _ _ _ (_::_) _ _ _;first|refine ox1 ?_|refine ox2 ?_ ?_<;>intro hp)|fail))
   refine' obe_res (fun us a w hk hd hS => ?_) ?_;rotate_left;focus (have hk := Kn.vw hk vwx;exact g_callO hk (hf := by kernel_rfl) (hc := ops6_any _ (by omega) (hS.rd (A := trailH bl bd ops) atx)) (h := fun _ _ h => h))
   refine' obe_val (c := .int .i64 (cntO ops 3 : Nat)) (fun us a w hk hd hS => ?_) ?_
   ·have hk := Kn.vw hk vwx
    exact g_callO hk (hf := by kernel_rfl) (hc := count6_any ops 3 _ _ (OwT.rd hd.1) (by omega)) (h := fun _ _ h => h)
   (repeat' (first|(show ObxE _ _ _ _ _ _ _ _ _ (_::_) _ _ _;first|refine ox1 ?_|refine ox2 ?_ ?_<;>intro hp)|fail))
   refine' obe_val (fun us a w hk hd hS => ?_) ?_;rotate_left;focus (have hk := Kn.vw hk vwx;exact g_callO hk (hf := by kernel_rfl) (hc := size_any T (k1, tag1, key1, text1, ⟨x11, x21, x31⟩, ⟨y11, y21, y31⟩, ⟨z11, z21, z31⟩, (e1, lv1, m1, d1, p1, q1), ⟨u11, u21, u31⟩) _ hP7 (hS.rdTr hT1)) (h := fun _ _ h => h))
   (repeat' (first|(show ObxE _ _ _ _ _ _ _ _ _ (_::_) _ _ _;first|refine ox1 ?_|refine ox2 ?_ ?_<;>intro hp)|fail))
   refine obe_nil ⟨rfl, ?_⟩;intro us a w hk hS
   (repeat' (first|((first|refine wx1 ?_|refine wx2 ?_ ?_<;>intro hp|refine s_end hk ?_)<;>(clear hk a;intro a hk))|((first|refine wx3 ?_;intro w b|refine wx4 ?_;intro w|refine wx5 ?_;intro w v);clear hk hS a;intro hS a hk)|refine wx0 ?_|fail))
   exact done1 hk (h := ⟨rfl, hS.flat⟩)
  ·(repeat' (first|((first|refine wx1 ?_|refine wx2 ?_ ?_<;>intro hp|refine s_end hk ?_)<;>(clear hk a;intro a hk))|((first|refine wx3 ?_;intro w b|refine wx4 ?_;intro w|refine wx5 ?_;intro w v);clear hk hS a;intro hS a hk)|refine wx0 ?_|fail))
   refine sg hk (g_callO hk (hf := by kernel_rfl) (hc := hck _ (hS.rdTr hT1)) (h := ?_));clear hk a;rintro _ w ⟨rfl, hS1⟩ a hk;replace hS := hS.call0 hS1;clear hS1
   (repeat' (first|((first|refine wx1 ?_|refine wx2 ?_ ?_<;>intro hp|refine s_end hk ?_)<;>(clear hk a;intro a hk))|((first|refine wx3 ?_;intro w b|refine wx4 ?_;intro w|refine wx5 ?_;intro w v);clear hk hS a;intro hS a hk)|refine wx0 ?_|fail))
   refine sg hk (g_callO hk (hf := by kernel_rfl) (hc := hrk _ (hS.rdTr hT2)) (h := ?_));clear hk a;rintro _ w ⟨rfl, hS1⟩ a hk;replace hS := hS.call0 hS1;clear hS1
   (repeat' (first|((first|refine wx1 ?_|refine wx2 ?_ ?_<;>intro hp|refine s_end hk ?_)<;>(clear hk a;intro a hk))|((first|refine wx3 ?_;intro w b|refine wx4 ?_;intro w|refine wx5 ?_;intro w v);clear hk hS a;intro hS a hk)|refine wx0 ?_|fail))
   exact done1 hk (h := ⟨rfl, hS.flat⟩)
 ·(repeat' (first|((first|refine wx1 ?_|refine wx2 ?_ ?_<;>intro hp|refine s_end hk ?_)<;>(clear hk a;intro a hk))|((first|refine wx3 ?_;intro w b|refine wx4 ?_;intro w|refine wx5 ?_;intro w v);clear hk hS a;intro hS a hk)|refine wx0 ?_|fail))
  refine sg hk (g_callO hk (hf := by kernel_rfl) (hc := hrk _ (hS.rdTr hT2)) (h := ?_));clear hk a;rintro _ w ⟨rfl, hS1⟩ a hk;replace hS := hS.call0 hS1;clear hS1
  by_cases hc0 : ce = 0
  ·(repeat' (first|((first|refine wx1 ?_|refine wx2 ?_ ?_<;>intro hp|refine s_end hk ?_)<;>(clear hk a;intro a hk))|((first|refine wx3 ?_;intro w b|refine wx4 ?_;intro w|refine wx5 ?_;intro w v);clear hk hS a;intro hS a hk)|refine wx0 ?_|fail))
   exact done1 hk (h := ⟨rfl, hS.flat⟩)
  ·(repeat' (first|((first|refine wx1 ?_|refine wx2 ?_ ?_<;>intro hp|refine s_end hk ?_)<;>(clear hk a;intro a hk))|((first|refine wx3 ?_;intro w b|refine wx4 ?_;intro w|refine wx5 ?_;intro w v);clear hk hS a;intro hS a hk)|refine wx0 ?_|fail))
   exact done1 hk (h := ⟨rfl, hS.flat⟩)
theorem laid_ScrimGrown {W : World} (hL : laidMetH Tryz.prog Rows.scrimGrownRow.laid W) : TabW W := by
 rw [MakeChecks.laidMetH_plain _ _ _ (by kernel_rfl)] at hL
 have h2 := laid_tail (laid_tail hL)
 exact Lib.tabIs_of_head (g := 1) (t := 201) (by kernel_rfl) (by kernel_rfl) Tryz.underlying201 Tryz.underlying195 (by kernel_rfl) (by kernel_rfl) h2
theorem walk_ScrimGrown (W : World) (vs : List Value) (hL : laidMetH Tryz.prog Rows.scrimGrownRow.laid W) (h : Args Tryz.prog W [9] vs) : Calls Tryz.prog 3 vs.toArray W (Ret fun v w => v = .bool true ∧ St W [] w) := by
 obtain ⟨v, rfl, ha⟩ := args1 h
 obtain ⟨s, rfl, _⟩ := ha.str (sT rfl) (aT rfl)
 exact grown_any s W (laid_ScrimGrown hL)
end Go.Proofs.YtnjmonkehjlaoaaGreatDoor
