/- Layer 7: which views may be, with all that is below: the program. Layer 7: how great, how deep a view is, in plain words. Layer 7: numbers of a view, of each node and of what came of its kids. Layer 7: how great, how deep a view is, its longest duration: the program and the reference. Functions that may panic: they return, or they panic; what a call of one of them gives; the end of such a body. Panics that a text throws, interface values, a deferred closure. Layer 8: the program's reader: blanks, the next byte, a word, a text; what is wrong. Digits of numbers, beginnings of texts: what the library gives. -/
import Derived.Test.YtnjmonkehjlaoaaGreatDoorG15
import Derived.Test.YtnjmonkehjlaoaaGreatDoorG11
import Derived.Test.YtnjmonkehjlaoaaGreatDoorG09
import Derived.RecoverIn
import Derived.Laws.Build
import Derived.WideLaws
import Derived.Test.YtnjmonkehjlaoaaGreatDoorG12
import Derived.Test.YtnjmonkehjlaoaaGreatDoorShelf
import Derived.Test.YtnjmonkehjlaoaaGreatDoorG07
import Derived.Lib.AppendIntMem
import Derived.Lib.LaidTab
import Derived.LaidLaws
set_option linter.all false
namespace Go.Proofs.YtnjmonkehjlaoaaGreatDoor
open Go.RowKit
set_option maxRecDepth 100000
attribute [local irreducible] Go.Code.wpIn Go.wpListIn Go.Calls Gives Go.Exit.then Go.Exit.inBlock Done ObxE
set_option maxHeartbeats 8000000 in
theorem check7_any (bw : Nat) (depth : Int) : ∀ (n : Nat) (t : Tree) (h : NdH) (B : Bs) (L : List HP) (w : World) (deep left : Int), SizeOf.sizeOf t < n → FitsW t → Siz 1000000 t → TrR B.g t h → -1000000000 ≤ left - cnt t → left ≤ 1000000000 → -1000000000 ≤ deep → deep + cnt t ≤ 1000000000 →
  St B (pts bw [.int .i64 depth, .int .i64 left] 84 :: L) w → Calls Tryz.prog 31 #[.pointer (some ⟨bw, 0, none⟩), ndV h, .int .i64 deep] w (Ret fun v w' => v = .int .i64 (chkT t deep depth left).1 ∧ St B (pts bw [.int .i64 depth, .int .i64 (chkT t deep depth left).2] 84 :: L) w')
 | 0, _, _, _, _, _, _, _, hn, _, _, _, _, _, _, _, _ => by omega
 | n + 1, t, h, B, L, w, deep, left, hn, hf, hz, hr, b1, b2, b3, b4, hS => by
  have ih := check7_any bw depth n
  obtain ⟨k, tag, key, text, cl, al, sl, e, lv, m, d, p, q, kids, a1, m1, a2, m2, a3, m3, a4, m4, H, rfl, rfl, c1, c2, c3, c4, hF⟩ := hr.split
  obtain ⟨l1, l2, l3, l4, l5⟩ := hf
  obtain ⟨z1, z2, z3, z4, z5, z6, z7⟩ := hz
  have hHk : H.length = kids.length := hF.1
  have hnz := Siz.names z4 z5 z6
  have hcn : (cnt (.mk k tag key text cl al sl (e, lv, m, d, p, q) kids) : Int) = cntL kids + 1 := by simp only [cnt];omega
  rw [hcn] at b1 b4
  have hck : ∀ deep left, chkT (.mk k tag key text cl al sl (e, lv, m, d, p, q) kids) deep depth left = if depth < deep then (7, left - 1)
   else if left - 1 < 0 then (8, left - 1)
   else if mayB k tag key text cl al sl (e, lv, m, d, p, q) kids = false then (4, left - 1)
   else if (namesL cl al sl).any rsvS = true then (6, left - 1)
   else if twcB (kids.map Tree.key) = true then (5, left - 1)
   else chkL kids (deep + 1) depth (left - 1) := fun deep left => by rw [chkT]
  rw [hck]
  clear hck hcn
  have hma := fun w0 c1 c2 c3 c4 hF => may7_any k tag key text cl al sl e lv m d p q kids a1 a2 a3 a4 m1 m2 m3 m4 H w0 c1 c2 c3 c4 hF l1 l2 l3 l4 z1 z2 z3 (fun x hx => (z5 x hx).2) hnz
  have htw := fun w0 c1 c2 c3 c4 hF => twice_any k tag key text cl al sl e lv m d p q kids a1 a2 a3 a4 m1 m2 m3 m4 H w0 c1 c2 c3 c4 hF l1 l2 l3 l4
  generalize mayB k tag key text cl al sl (e, lv, m, d, p, q) kids = bm at *
  generalize twcB (kids.map Tree.key) = bt at *
  have hnn : ∀ w0 v (hv : SlT (namesL cl al sl) v w0), Calls Tryz.prog 49 #[v, .func (.func 51) #[] #[]] w0 (Ret fun v w => v = .bool ((namesL cl al sl).any rsvS) ∧ St w0 [] w) :=
   fun w0 v hv => anyN_any rsvS (namesL cl al sl) 51 v w0 hv (by have := names_len l1 l2 l3;omega) (by kernel_rfl) (fun x hx w => reserved_any x w)
  generalize hbn : (namesL cl al sl).any rsvS = bn at *
  show Calls Tryz.prog 31 #[.pointer (some ⟨bw, 0, none⟩), .agg #[.int .i64 k, .string tag, .string key, .string text, .slice a1 cl.length m1, .slice a2 al.length m2, .slice a3 sl.length m3, .int .i64 e, .int .i64 lv, .int .i64 m, .int .i64 d, .bool p, .bool q, .slice a4 H.length m4], .int .i64 deep] w _
  refine enter Tryz.func31 rfl Tryz.ntmps31 rfl (fun a hk => ?_)
  by_cases hd : depth < deep
  ·rw [if_pos hd]
   (repeat' (first|((first|refine wx1 ?_|refine wx2 ?_ ?_<;>intro hp|refine s_end hk ?_)<;>(clear hk a;intro a hk))|((first|refine wx3 ?_;intro w b|refine wx4 ?_;intro w|refine wx5 ?_;intro w v);clear hk hS a;intro hS a hk)|refine wx0 ?_|fail))
   exact done1 hk (h := ⟨rfl, (hS.sub (.cons atx (by repeat (first | exact Sub.refl | apply Sub.under))))⟩)
  ·rw [if_neg hd]
   by_cases hl : left - 1 < 0
   ·rw [if_pos hl]
    (repeat' (first|((first|refine wx1 ?_|refine wx2 ?_ ?_<;>intro hp|refine s_end hk ?_)<;>(clear hk a;intro a hk))|((first|refine wx3 ?_;intro w b|refine wx4 ?_;intro w|refine wx5 ?_;intro w v);clear hk hS a;intro hS a hk)|refine wx0 ?_|fail))
    exact done1 hk (h := ⟨rfl, (hS.sub (.cons atx (by repeat (first | exact Sub.refl | apply Sub.under))))⟩)
   ·rw [if_neg hl]
    (repeat' (first|((first|refine wx1 ?_|refine wx2 ?_ ?_<;>intro hp|refine s_end hk ?_)<;>(clear hk a;intro a hk))|((first|refine wx3 ?_;intro w b|refine wx4 ?_;intro w|refine wx5 ?_;intro w v);clear hk hS a;intro hS a hk)|refine wx0 ?_|fail))
    refine sg hk (g_callO hk (hf := by kernel_rfl) (hc := hma _ (hS.rdT c1) (hS.rdT c2) (hS.rdT c3) (hS.rdT c4) (hS.rdFo hF)) (h := ?_));clear hk a;rintro _ w ⟨rfl, hS1⟩ a hk;replace hS := hS.call0 hS1;clear hS1
    cases bm with
    | false =>
     rw [if_pos rfl]
     (repeat' (first|((first|refine wx1 ?_|refine wx2 ?_ ?_<;>intro hp|refine s_end hk ?_)<;>(clear hk a;intro a hk))|((first|refine wx3 ?_;intro w b|refine wx4 ?_;intro w|refine wx5 ?_;intro w v);clear hk hS a;intro hS a hk)|refine wx0 ?_|fail))
     exact done1 hk (h := ⟨rfl, (hS.sub (.cons atx (by repeat (first | exact Sub.refl | apply Sub.under))))⟩)
    | true =>
     rw [if_neg (by decide)]
     (repeat' (first|((first|refine wx1 ?_|refine wx2 ?_ ?_<;>intro hp|refine s_end hk ?_)<;>(clear hk a;intro a hk))|((first|refine wx3 ?_;intro w b|refine wx4 ?_;intro w|refine wx5 ?_;intro w v);clear hk hS a;intro hS a hk)|refine wx0 ?_|fail))
     refine sg hk (g_callO hk (hf := by kernel_rfl) (hc := names7_any k tag key text cl al sl e lv m d p q kids a1 a2 a3 a4 m1 m2 m3 m4 H _ (hS.rdT c1) (hS.rdT c2) (hS.rdT c3) (hS.rdT c4) (hS.rdFo hF) l1 l2 l3 l4) (h := ?_));clear hk a;rintro vn w hS1 a hk;replace hS := hS.call hS1;clear hS1
     rw [List.cons_append, List.nil_append] at hS
     refine sg hk (g_callO hk (hf := by kernel_rfl) (hc := hnn _ vn (by first | exact St.rdT hS (by assumption) | exact OwT.rd (hS.rd (A := OwT _ _ _) atx) | assumption)) (h := ?_));clear hk a;rintro _ w ⟨rfl, hS1⟩ a hk;replace hS := hS.call0 hS1;clear hS1
     cases bn with
     | true =>
      rw [if_pos rfl]
      (repeat' (first|((first|refine wx1 ?_|refine wx2 ?_ ?_<;>intro hp|refine s_end hk ?_)<;>(clear hk a;intro a hk))|((first|refine wx3 ?_;intro w b|refine wx4 ?_;intro w|refine wx5 ?_;intro w v);clear hk hS a;intro hS a hk)|refine wx0 ?_|fail))
      exact done1 hk (h := ⟨rfl, (hS.sub (.cons atx (by repeat (first | exact Sub.refl | apply Sub.under))))⟩)
     | false =>
      rw [if_neg (by decide)]
      (repeat' (first|((first|refine wx1 ?_|refine wx2 ?_ ?_<;>intro hp|refine s_end hk ?_)<;>(clear hk a;intro a hk))|((first|refine wx3 ?_;intro w b|refine wx4 ?_;intro w|refine wx5 ?_;intro w v);clear hk hS a;intro hS a hk)|refine wx0 ?_|fail))
      refine sg hk (g_callO hk (hf := by kernel_rfl) (hc := htw _ (hS.rdT c1) (hS.rdT c2) (hS.rdT c3) (hS.rdT c4) (hS.rdFo hF)) (h := ?_));clear hk a;rintro _ w ⟨rfl, hS1⟩ a hk;replace hS := hS.call0 hS1;clear hS1
      cases bt with
      | true =>
       rw [if_pos rfl]
       (repeat' (first|((first|refine wx1 ?_|refine wx2 ?_ ?_<;>intro hp|refine s_end hk ?_)<;>(clear hk a;intro a hk))|((first|refine wx3 ?_;intro w b|refine wx4 ?_;intro w|refine wx5 ?_;intro w v);clear hk hS a;intro hS a hk)|refine wx0 ?_|fail))
       exact done1 hk (h := ⟨rfl, (hS.sub (.cons atx (by repeat (first | exact Sub.refl | apply Sub.under))))⟩)
      | false =>
       rw [if_neg (by decide)]
       have hv4 := hS.rdT c4
       (repeat' (first|((first|refine wx1 ?_|refine wx2 ?_ ?_<;>intro hp|refine s_end hk ?_)<;>(clear hk a;intro a hk))|((first|refine wx3 ?_;intro w b|refine wx4 ?_;intro w|refine wx5 ?_;intro w v);clear hk hS a;intro hS a hk)|refine wx0 ?_|fail))
       replace hk := Kn.kp [0, 2, 42, 43, 44] hk
       refine wp_for H.length (fun i _ => [(44, .int .i64 (i : Int))]) (fun i x => pts bw [.int .i64 depth, .int .i64 x] 84 :: L) (fun i x => chkL (kids.take i) (deep + 1) depth (left - 1) = (0, x)) (left - 1) hk skx (hS.sub (.cons atx (by repeat (first | exact Sub.refl | apply Sub.under)))) (by rw [List.take_zero, chkL]) ?_
       clear hk hS a hv4
       rintro i x a w hi hk hS hC
       have hv4 := hS.rdT c4
       by_cases hil : i < H.length
       ·obtain ⟨tk, htk⟩ : ∃ t, kids[i]? = some t := ⟨_, List.getElem?_eq_getElem (by omega)⟩
        obtain ⟨hd0, hx⟩ : ∃ x, H[i]? = some x := ⟨_, List.getElem?_eq_getElem hil⟩
        have hTr := hF.2 i tk hd0 htk hx
        have hfk := l5 tk (List.mem_of_getElem? htk)
        have hzk := z7 tk (List.mem_of_getElem? htk)
        have hlt : SizeOf.sizeOf tk < n := by have := kid_lt (k := k) (tag := tag) (key := key) (text := text) (cl := cl) (at_ := al) (st := sl) (o := (e, lv, m, d, p, q)) (List.mem_of_getElem? htk);omega
        have hbd := chkL_bnd (kids.take i) (deep + 1) depth (left - 1)
        rw [hC] at hbd
        simp only at hbd
        have hct : cntL (kids.take i) + cnt tk ≤ cntL kids := by
         have h1 := cntL_app (kids.take (i + 1)) (kids.drop (i + 1))
         rw [List.take_append_drop, take_snoc htk, cntL_app] at h1
         simp only [cntL] at h1
         omega
        have hsn := chkL_snoc (kids.take i) tk (deep + 1) depth (left - 1) (by rw [hC])
        rw [hC, ← take_snoc htk] at hsn
        simp only at hsn
        have hcp := cnt_pos tk
        obtain ⟨k0, tag0, key0, text0, ⟨x1, x2, x3⟩, ⟨y1, y2, y3⟩, ⟨zz1, zz2, zz3⟩, ⟨e0, lv0, m0, d0, p0, q0⟩, ⟨u1, u2, u3⟩⟩ := hd0
        (repeat' (first|((first|refine wx1 ?_|refine wx2 ?_ ?_<;>intro hp|refine s_end hk ?_)<;>(clear hk a;intro a hk))|((first|refine wx3 ?_;intro w b|refine wx4 ?_;intro w|refine wx5 ?_;intro w v);clear hk hS a;intro hS a hk)|refine wx0 ?_|fail))
        refine sg hk (g_callO hk (hf := by kernel_rfl) (hc := ih tk (k0, tag0, key0, text0, ⟨x1, x2, x3⟩, ⟨y1, y2, y3⟩, ⟨zz1, zz2, zz3⟩, (e0, lv0, m0, d0, p0, q0), ⟨u1, u2, u3⟩) B _ _ (deep + 1) x hlt hfk hzk hTr (by omega) (by omega) (by omega) (by omega) (hS.sub (.cons atx .refl))) (h := ?_));clear hk hS a;intro vr w hS a hk
        obtain ⟨rfl, hS⟩ := hS
        by_cases hne : (chkT tk (deep + 1) depth x).1 = 0
        ·(repeat' (first|((first|refine wx1 ?_|refine wx2 ?_ ?_<;>intro hp|refine s_end hk ?_)<;>(clear hk a;intro a hk))|((first|refine wx3 ?_;intro w b|refine wx4 ?_;intro w|refine wx5 ?_;intro w v);clear hk hS a;intro hS a hk)|refine wx0 ?_|fail))
         refine ⟨hil, (chkT tk (deep + 1) depth x).2, hk.sd, (hS.sub (.cons atx (by repeat (first | exact Sub.refl | apply Sub.under)))), by rw [hsn];exact Prod.ext hne rfl⟩
        ·(repeat' (first|((first|refine wx1 ?_|refine wx2 ?_ ?_<;>intro hp|refine s_end hk ?_)<;>(clear hk a;intro a hk))|((first|refine wx3 ?_;intro w b|refine wx4 ?_;intro w|refine wx5 ?_;intro w v);clear hk hS a;intro hS a hk)|refine wx0 ?_|fail))
         have hfin : chkL kids (deep + 1) depth (left - 1) = chkT tk (deep + 1) depth x := by
          have h1 := chkL_app (kids.take (i + 1)) (kids.drop (i + 1)) (deep + 1) depth (left - 1)
          rw [List.take_append_drop, hsn, if_neg hne] at h1
          exact h1
         rw [hfin]
         exact done1 hk (h := ⟨rfl, (hS.sub (.cons atx (by repeat (first | exact Sub.refl | apply Sub.under))))⟩)
       ·have hii : i = kids.length := by omega
        subst hii
        rw [List.take_length] at hC
        (repeat' (first|((first|refine wx1 ?_|refine wx2 ?_ ?_<;>intro hp|refine s_end hk ?_)<;>(clear hk a;intro a hk))|((first|refine wx3 ?_;intro w b|refine wx4 ?_;intro w|refine wx5 ?_;intro w v);clear hk hS a;intro hS a hk)|refine wx0 ?_|fail))
        rw [hC]
        exact done1 hk (h := ⟨rfl, (hS.sub (.cons atx (by repeat (first | exact Sub.refl | apply Sub.under))))⟩)
theorem clip_any (x lo hi : Int) (w0 : World) : Calls Tryz.prog 30 #[.int .i64 x, .int .i64 lo, .int .i64 hi] w0 (Ret fun v w => v = .int .i64 (max lo (min x hi)) ∧ St w0 [] w) := by
 refine enter Tryz.func30 rfl Tryz.ntmps30 rfl (fun a hk => ?_);have hS := St.refl w0
 (repeat' (first|((first|refine wx1 ?_|refine wx2 ?_ ?_<;>intro hp|refine s_end hk ?_)<;>(clear hk a;intro a hk))|((first|refine wx3 ?_;intro w b|refine wx4 ?_;intro w|refine wx5 ?_;intro w v);clear hk hS a;intro hS a hk)|refine wx0 ?_|fail))
 exact done1 hk (h := ⟨rfl, hS.nil⟩)
def chk7 (t : Tree) (depth nodes : Int) : Int := (chkT t 1 (max 1 (min depth 20)) (max 1 (min nodes 4096))).1
theorem Check7_any (t : Tree) (h : NdH) (depth nodes : Int) (w0 : World) (hf : FitsW t) (hz : Siz 1000000 t) (hc : cnt t ≤ 1000000) (hr : TrR w0 t h) :
  Calls Tryz.prog 8 #[ndV h, .int .i64 depth, .int .i64 nodes] w0 (Ret fun v w => v = .int .i64 (chk7 t depth nodes) ∧ St w0 [] w) := by
 have hr0 := hr
 obtain ⟨k, tag, key, text, cl, al, sl, e, lv, m, d, p, q, kids, a1, m1, a2, m2, a3, m3, a4, m4, H, rfl, rfl, -⟩ := hr.split
 show Calls Tryz.prog 8 #[.agg #[.int .i64 k, .string tag, .string key, .string text, .slice a1 cl.length m1, .slice a2 al.length m2, .slice a3 sl.length m3, .int .i64 e, .int .i64 lv, .int .i64 m, .int .i64 d, .bool p, .bool q, .slice a4 H.length m4], .int .i64 depth, .int .i64 nodes] w0 _
 refine enter Tryz.func8 rfl Tryz.ntmps8 rfl (fun a hk => ?_);have hS := St.refl w0
 (repeat' (first|((first|refine wx1 ?_|refine wx2 ?_ ?_<;>intro hp|refine s_end hk ?_)<;>(clear hk a;intro a hk))|((first|refine wx3 ?_;intro w b|refine wx4 ?_;intro w|refine wx5 ?_;intro w v);clear hk hS a;intro hS a hk)|refine wx0 ?_|fail))
 refine sg hk (g_callO hk (hf := by kernel_rfl) (hc := clip_any depth 1 20 _) (h := ?_));clear hk a;rintro _ w ⟨rfl, hS1⟩ a hk;replace hS := hS.call0 hS1;clear hS1
 (repeat' (first|((first|refine wx1 ?_|refine wx2 ?_ ?_<;>intro hp|refine s_end hk ?_)<;>(clear hk a;intro a hk))|((first|refine wx3 ?_;intro w b|refine wx4 ?_;intro w|refine wx5 ?_;intro w v);clear hk hS a;intro hS a hk)|refine wx0 ?_|fail))
 refine sg hk (g_callO hk (hf := by kernel_rfl) (hc := clip_any nodes 1 4096 _) (h := ?_));clear hk a;rintro _ w ⟨rfl, hS1⟩ a hk;replace hS := hS.call0 hS1;clear hS1
 (repeat' (first|((first|refine wx1 ?_|refine wx2 ?_ ?_<;>intro hp|refine s_end hk ?_)<;>(clear hk a;intro a hk))|((first|refine wx3 ?_;intro w b|refine wx4 ?_;intro w|refine wx5 ?_;intro w v);clear hk hS a;intro hS a hk)|refine wx0 ?_|fail))
 refine sg hk (g_callO hk (hf := by kernel_rfl) (hc := check7_any b (max 1 (min depth 20)) (SizeOf.sizeOf (Tree.mk k tag key text cl al sl (e, lv, m, d, p, q) kids) + 1) _ (k, tag, key, text, ⟨a1, cl.length, m1⟩, ⟨a2, al.length, m2⟩, ⟨a3, sl.length, m3⟩, (e, lv, m, d, p, q), ⟨a4, H.length, m4⟩) w0 _ _ 1 (max 1 (min nodes 4096)) (by omega) hf hz hr0 (by omega) (by omega) (by omega) (by omega) hS) (h := ?_));clear hk hS a;intro vr w hS a hk
 obtain ⟨rfl, hS⟩ := hS
 (repeat' (first|((first|refine wx1 ?_|refine wx2 ?_ ?_<;>intro hp|refine s_end hk ?_)<;>(clear hk a;intro a hk))|((first|refine wx3 ?_;intro w b|refine wx4 ?_;intro w|refine wx5 ?_;intro w v);clear hk hS a;intro hS a hk)|refine wx0 ?_|fail))
 exact done1 hk (h := ⟨rfl, hS.nil⟩)
end Go.Proofs.YtnjmonkehjlaoaaGreatDoor
namespace Go.Proofs.YtnjmonkehjlaoaaGreatDoor
open Go.RowKit
mutual
def dep : Tree → Nat
 | .mk _ _ _ _ _ _ _ _ kids => depL kids + 1
def depL : List Tree → Nat
 | [] => 0
 | t :: ts => max (dep t) (depL ts)
end
mutual
def lng : Tree → Int
 | .mk _ _ _ _ _ _ _ (e, lv, m, _) kids => max (max 0 (max e (max lv m))) (lngL kids)
def lngL : List Tree → Int
 | [] => 0
 | t :: ts => max (lng t) (lngL ts)
end
def sumN (l : List Nat) : Nat := l.foldl (· + ·) 0
theorem sumN_snoc (l : List Nat) (x : Nat) : sumN (l ++ [x]) = sumN l + x := by simp [sumN]
theorem cntL_sum (ts : List Tree) : sumN (ts.map cnt) = cntL ts := by
 have : ∀ (ts : List Tree) (n : Nat), (ts.map cnt).foldl (· + ·) n = n + cntL ts := by
  intro ts
  induction ts with
  | nil => intro n;simp [cntL]
  | cons t ts ih => intro n;simp only [List.map_cons, List.foldl_cons, cntL];rw [ih];omega
 have := this ts 0
 simpa [sumN] using this
def mxI (l : List Int) : Int := l.foldl max 0
theorem dep_cnt : ∀ (n : Nat) (t : Tree), SizeOf.sizeOf t < n → dep t ≤ cnt t
 | 0, _, h => by omega
 | n + 1, .mk k tag key text cl al sl o kids, h => by
  have hk : ∀ t ∈ kids, dep t ≤ cnt t := fun t ht => dep_cnt n t (by have := kid_lt (k := k) (tag := tag) (key := key) (text := text) (cl := cl) (at_ := al) (st := sl) (o := o) ht;omega)
  simp only [dep, cnt]
  have : ∀ ts : List Tree, (∀ t ∈ ts, dep t ≤ cnt t) → depL ts ≤ cntL ts := by
   intro ts
   induction ts with
   | nil => intro _;simp [depL, cntL]
   | cons t ts ih =>
    intro h
    have h1 := h t (by simp)
    have h2 := ih (fun t ht => h t (by simp [ht]))
    simp only [depL, cntL]
    omega
  have := this kids hk
  omega
theorem dep_le (t : Tree) : dep t ≤ cnt t := dep_cnt _ t (Nat.lt_succ_self _)
theorem cntL_snoc (ts : List Tree) (t : Tree) : cntL (ts ++ [t]) = cntL ts + cnt t := by rw [cntL_app]; simp [cntL]
end Go.Proofs.YtnjmonkehjlaoaaGreatDoor
namespace Go.Proofs.YtnjmonkehjlaoaaGreatDoor
open Go.RowKit
set_option maxRecDepth 100000
attribute [local irreducible] Go.Code.wpIn Go.wpListIn Go.Calls Gives Go.Exit.then Go.Exit.inBlock Done ObxE
theorem satN_any (x : Int) (h0 : 0 ≤ x) (h1 : x ≤ 2147483647) (w0 : World) : Calls Tryz.prog 77 #[.int .i64 x] w0 (Ret fun v w => v = .int .i64 x ∧ St w0 [] w) := by
 refine enter Tryz.func77 rfl Tryz.ntmps77 rfl (fun a hk => ?_);have hS := St.refl w0
 (repeat' (first|((first|refine wx1 ?_|refine wx2 ?_ ?_<;>intro hp|refine s_end hk ?_)<;>(clear hk a;intro a hk))|((first|refine wx3 ?_;intro w b|refine wx4 ?_;intro w|refine wx5 ?_;intro w v);clear hk hS a;intro hS a hk)|refine wx0 ?_|fail))
 exact done1 hk (h := ⟨by rw [show max (-2147483648) (min x 2147483647) = x by omega], hS.nil⟩)
theorem addN_any (x y : Nat) (h1 : x + y ≤ 2147483647) (w0 : World) : Calls Tryz.prog 43 #[.int .i64 (x : Int), .int .i64 (y : Int)] w0 (Ret fun v w => v = .int .i64 ((x + y : Nat) : Int) ∧ St w0 [] w) := by
 refine enter Tryz.func43 rfl Tryz.ntmps43 rfl (fun a hk => ?_);have hS := St.refl w0
 (repeat' (first|((first|refine wx1 ?_|refine wx2 ?_ ?_<;>intro hp|refine s_end hk ?_)<;>(clear hk a;intro a hk))|((first|refine wx3 ?_;intro w b|refine wx4 ?_;intro w|refine wx5 ?_;intro w v);clear hk hS a;intro hS a hk)|refine wx0 ?_|fail))
 refine sg hk (g_callO hk (hf := by kernel_rfl) (hc := satN_any x (by omega) (by omega) _) (h := ?_));clear hk a;rintro _ w ⟨rfl, hS1⟩ a hk;replace hS := hS.call0 hS1;clear hS1
 (repeat' (first|((first|refine wx1 ?_|refine wx2 ?_ ?_<;>intro hp|refine s_end hk ?_)<;>(clear hk a;intro a hk))|((first|refine wx3 ?_;intro w b|refine wx4 ?_;intro w|refine wx5 ?_;intro w v);clear hk hS a;intro hS a hk)|refine wx0 ?_|fail))
 refine sg hk (g_callO hk (hf := by kernel_rfl) (hc := satN_any y (by omega) (by omega) _) (h := ?_));clear hk a;rintro _ w ⟨rfl, hS1⟩ a hk;replace hS := hS.call0 hS1;clear hS1
 (repeat' (first|((first|refine wx1 ?_|refine wx2 ?_ ?_<;>intro hp|refine s_end hk ?_)<;>(clear hk a;intro a hk))|((first|refine wx3 ?_;intro w b|refine wx4 ?_;intro w|refine wx5 ?_;intro w v);clear hk hS a;intro hS a hk)|refine wx0 ?_|fail))
 refine sg hk (g_callO hk (hf := by kernel_rfl) (hc := satN_any ((x : Int) + y) (by omega) (by omega) _) (h := ?_));clear hk a;rintro _ w ⟨rfl, hS1⟩ a hk;replace hS := hS.call0 hS1;clear hS1
 (repeat' (first|((first|refine wx1 ?_|refine wx2 ?_ ?_<;>intro hp|refine s_end hk ?_)<;>(clear hk a;intro a hk))|((first|refine wx3 ?_;intro w b|refine wx4 ?_;intro w|refine wx5 ?_;intro w v);clear hk hS a;intro hS a hk)|refine wx0 ?_|fail))
 exact done1 hk (h := ⟨by rw [Int.natCast_add], hS.nil⟩)
def natI (l : List Nat) : List Int := l.map (fun n : Nat => (n : Int))
theorem natI_get {l : List Nat} {i x : Nat} (h : l[i]? = some x) : (natI l)[i]? = some (x : Int) := by simp [natI, h]
theorem sumN_take {l : List Nat} {i : Nat} : sumN (l.take i) ≤ sumN l := by
 have : ∀ (r l : List Nat), sumN l ≤ sumN (l ++ r) := by
  intro r
  induction r with
  | nil => intro l;simp
  | cons x r ih =>
   intro l
   have := ih (l ++ [x])
   rw [sumN_snoc, List.append_assoc, List.singleton_append] at this
   omega
 have := this (l.drop i) (l.take i)
 rwa [List.take_append_drop] at this
theorem sum_any (l : List Nat) (v : Value) (w0 : World) (hv : SlT (natI l) v w0) (hl : sumN l ≤ 1000000) : Calls Tryz.prog 26 #[v] w0 (Ret fun v w => v = .int .i64 (sumN l : Int) ∧ St w0 [] w) := by
 have hlen : (natI l).length = l.length := by simp [natI]
 have hm : (natI l).length ≤ maxLen := hv.len_le
 rw [hlen] at hm
 simp only [maxLen] at hm
 refine enter Tryz.func26 rfl Tryz.ntmps26 rfl (fun a hk => ?_);have hS := St.refl w0
 (repeat' (first|((first|refine wx1 ?_|refine wx2 ?_ ?_<;>intro hp|refine s_end hk ?_)<;>(clear hk a;intro a hk))|((first|refine wx3 ?_;intro w b|refine wx4 ?_;intro w|refine wx5 ?_;intro w v);clear hk hS a;intro hS a hk)|refine wx0 ?_|fail))
 replace hk := Kn.kp [3, 6, 7, 8] hk
 refine wp_for l.length (fun i _ => [(3, .int .i64 (sumN (l.take i) : Int)), (8, .int .i64 (i : Int))]) (fun _ _ => []) (fun _ _ => True) () hk skx hS.sb trivial ?_
 clear hk hS a
 rintro i - a w hi hk hS -
 by_cases hil : i < l.length
 ·obtain ⟨x, hx⟩ : ∃ x, l[i]? = some x := ⟨_, List.getElem?_eq_getElem hil⟩
  have hxI := natI_get hx
  have hst : sumN (l.take (i + 1)) = sumN (l.take i) + x := by rw [take_snoc hx, sumN_snoc]
  have hb := sumN_take (l := l) (i := i + 1)
  (repeat' (first|((first|refine wx1 ?_|refine wx2 ?_ ?_<;>intro hp|refine s_end hk ?_)<;>(clear hk a;intro a hk))|((first|refine wx3 ?_;intro w b|refine wx4 ?_;intro w|refine wx5 ?_;intro w v);clear hk hS a;intro hS a hk)|refine wx0 ?_|fail))
  refine sg hk (g_callO hk (hf := by kernel_rfl) (hc := addN_any (sumN (l.take i)) x (by omega) _) (h := ?_));clear hk a;rintro _ w ⟨rfl, hS1⟩ a hk;replace hS := hS.call0 hS1;clear hS1
  (repeat' (first|((first|refine wx1 ?_|refine wx2 ?_ ?_<;>intro hp|refine s_end hk ?_)<;>(clear hk a;intro a hk))|((first|refine wx3 ?_;intro w b|refine wx4 ?_;intro w|refine wx5 ?_;intro w v);clear hk hS a;intro hS a hk)|refine wx0 ?_|fail))
  rw [← hst] at hk
  exact ⟨hil, (), hk.sd, hS.sb, trivial⟩
 ·have : i = l.length := by omega
  subst this
  rw [List.take_length] at hk
  (repeat' (first|((first|refine wx1 ?_|refine wx2 ?_ ?_<;>intro hp|refine s_end hk ?_)<;>(clear hk a;intro a hk))|((first|refine wx3 ?_;intro w b|refine wx4 ?_;intro w|refine wx5 ?_;intro w v);clear hk hS a;intro hS a hk)|refine wx0 ?_|fail))
  exact done1 hk (h := ⟨rfl, hS.nil⟩)
set_option maxHeartbeats 4000000 in
theorem fold_any (f : FuncId) (hf : callable Tryz.prog f = true) (val : Tree → Int) (P : Tree → Prop) (hP : ∀ t, P t → FitsW t ∧ ∀ u ∈ t.kids, P u)
  (hc : ∀ (t : Tree) (h : NdH) (v : Value) (B : Bs) (L : List HP) (w : World), P t → TrR w t h → St B (OwT 3 (t.kids.map val) v :: L) w → Calls Tryz.prog f #[ndV h, v] w (Ret fun r w' => r = .int .i64 (val t) ∧ St B L w')) :
  ∀ (n : Nat) (t : Tree) (h : NdH) (w0 : World), SizeOf.sizeOf t < n → P t → TrR w0 t h → Calls Tryz.prog 24 #[ndV h, .func (.func f) #[] #[]] w0 (Ret fun v w => v = .int .i64 (val t) ∧ St w0 [] w)
 | 0, _, _, _, hn, _, _ => by omega
 | n + 1, t, h, w0, hn, hp, hr => by
  have ih := fold_any f hf val P hP hc n
  obtain ⟨hfits, hkids⟩ := hP t hp
  obtain ⟨k, tag, key, text, cl, al, sl, e, lv, m, d, p, q, kids, a1, m1, a2, m2, a3, m3, a4, m4, H, rfl, rfl, c1, c2, c3, c4, hF⟩ := hr.split
  obtain ⟨l1, l2, l3, l4, l5⟩ := hfits
  have hHk : H.length = kids.length := hF.1
  show Calls Tryz.prog 24 #[.agg #[.int .i64 k, .string tag, .string key, .string text, .slice a1 cl.length m1, .slice a2 al.length m2, .slice a3 sl.length m3, .int .i64 e, .int .i64 lv, .int .i64 m, .int .i64 d, .bool p, .bool q, .slice a4 H.length m4], .func (.func f) #[] #[]] w0 _
  have c4' := c4
  refine enter Tryz.func24 rfl Tryz.ntmps24 rfl (fun a hk => ?_);have hS := St.refl w0
  (repeat' (first|((first|refine wx1 ?_|refine wx2 ?_ ?_<;>intro hp|refine s_end hk ?_)<;>(clear hk a;intro a hk))|((first|refine wx3 ?_;intro w b|refine wx4 ?_;intro w|refine wx5 ?_;intro w v);clear hk hS a;intro hS a hk)|refine wx0 ?_|fail))
  rename Nat => b1
  replace hS := hS.nilT 3 Int
  replace hk := Kn.kp [1, 2, 5, 9, 10, 11] hk
  refine wp_for H.length (fun i v => [(5, v), (11, .int .i64 (i : Int))]) (fun i v => [OwT 3 ((kids.take i).map val) v, pts b1 [.int .i64 k, .string tag, .string key, .string text, .slice a1 cl.length m1, .slice a2 al.length m2, .slice a3 sl.length m3, .int .i64 e, .int .i64 lv, .int .i64 m, .int .i64 d, .bool p, .bool q, .slice a4 H.length m4] 31]) (fun _ _ => True) (.slice none 0 0) hk skx hS.sb trivial ?_
  clear hk hS a
  rintro i vo a w hi hk hS -
  have hml : ((kids.take i).map val).length ≤ 1000 := by rw [List.length_map, List.length_take];omega
  by_cases hil : i < H.length
  ·obtain ⟨tk, htk⟩ : ∃ t, kids[i]? = some t := ⟨_, List.getElem?_eq_getElem (by omega)⟩
   obtain ⟨hd0, hx⟩ : ∃ x, H[i]? = some x := ⟨_, List.getElem?_eq_getElem hil⟩
   have hTr := hF.2 i tk hd0 htk hx
   have hpk := hkids tk (List.mem_of_getElem? htk)
   have hlt : SizeOf.sizeOf tk < n := by have := kid_lt (k := k) (tag := tag) (key := key) (text := text) (cl := cl) (at_ := al) (st := sl) (o := (e, lv, m, d, p, q)) (List.mem_of_getElem? htk);omega
   have hst : (kids.take (i + 1)).map val = (kids.take i).map val ++ [val tk] := by rw [take_snoc htk, List.map_append, List.map_singleton]
   obtain ⟨k0, tag0, key0, text0, ⟨x1, x2, x3⟩, ⟨y1, y2, y3⟩, ⟨z1, z2, z3⟩, ⟨e0, lv0, m0, d0, p0, q0⟩, ⟨u1, u2, u3⟩⟩ := hd0
   have hv1 := hS.rdT c4
   (repeat' (first|((first|refine wx1 ?_|refine wx2 ?_ ?_<;>intro hp|refine s_end hk ?_)<;>(clear hk a;intro a hk))|((first|refine wx3 ?_;intro w b|refine wx4 ?_;intro w|refine wx5 ?_;intro w v);clear hk hS a;intro hS a hk)|refine wx0 ?_|fail))
   refine sg hk (g_callO hk (hf := by kernel_rfl) (hc := ih tk (k0, tag0, key0, text0, ⟨x1, x2, x3⟩, ⟨y1, y2, y3⟩, ⟨z1, z2, z3⟩, (e0, lv0, m0, d0, p0, q0), ⟨u1, u2, u3⟩) _ hlt hpk (hS.rdTr hTr)) (h := ?_));clear hk a;rintro _ w ⟨rfl, hS1⟩ a hk;replace hS := hS.call0 hS1;clear hS1
   (repeat' (first|((first|refine wx1 ?_|refine wx2 ?_ ?_<;>intro hp|refine s_end hk ?_)<;>(clear hk a;intro a hk))|((first|refine wx3 ?_;intro w b|refine wx4 ?_;intro w|refine wx5 ?_;intro w v);clear hk hS a;intro hS a hk)|refine wx0 ?_|fail))
   rw [← hst] at hS
   exact ⟨hil, _, hk.sd, hS.sb, trivial⟩
  ·have hii : i = kids.length := by omega
   subst hii
   rw [List.take_length] at hS
   (repeat' (first|((first|refine wx1 ?_|refine wx2 ?_ ?_<;>intro hp|refine s_end hk ?_)<;>(clear hk a;intro a hk))|((first|refine wx3 ?_;intro w b|refine wx4 ?_;intro w|refine wx5 ?_;intro w v);clear hk hS a;intro hS a hk)|refine wx0 ?_|fail))
   have hT : TrR w (.mk k tag key text cl al sl (e, lv, m, d, p, q) kids) (k, tag, key, text, ⟨a1, cl.length, m1⟩, ⟨a2, al.length, m2⟩, ⟨a3, sl.length, m3⟩, (e, lv, m, d, p, q), ⟨a4, H.length, m4⟩) := hS.rdTr hr
   refine sg hk (g_callvO (first := []) (cap := []) hk (hf := hf) (hc := hc _ _ _ _ [] _ hp hT (hS.sub (by (repeat (first | exact Sub.nil | exact Sub.refl | refine Sub.cons atx ?_))))) (h := ?_));clear hk hS a;rintro _ w ⟨rfl, hS⟩ a hk
   (repeat' (first|((first|refine wx1 ?_|refine wx2 ?_ ?_<;>intro hp|refine s_end hk ?_)<;>(clear hk a;intro a hk))|((first|refine wx3 ?_;intro w b|refine wx4 ?_;intro w|refine wx5 ?_;intro w v);clear hk hS a;intro hS a hk)|refine wx0 ?_|fail))
   exact done1 hk (h := ⟨rfl, hS⟩)
end Go.Proofs.YtnjmonkehjlaoaaGreatDoor
namespace Go.Proofs.YtnjmonkehjlaoaaGreatDoor
open Go.RowKit
set_option maxRecDepth 100000
attribute [local irreducible] Go.Code.wpIn Go.wpListIn Go.Calls Gives Go.Exit.then Go.Exit.inBlock Done ObxE
def P7 (t : Tree) : Prop := FitsW t ∧ cnt t ≤ 1000
theorem P7.kids (t : Tree) (h : P7 t) : FitsW t ∧ ∀ u ∈ t.kids, P7 u := by
 obtain ⟨h1, h2⟩ := h
 refine ⟨h1, fun u hu => ?_⟩
 cases h1 with
 | mk _ _ _ _ h5 =>
  refine ⟨h5 u hu, ?_⟩
  have := cntL_mem hu
  simp only [Tree.kids] at this
  simp only [cnt] at h2
  omega
theorem cntL_take (ts : List Tree) (i : Nat) : cntL (ts.take i) ≤ cntL ts := by
 have := cntL_app (ts.take i) (ts.drop i)
 rw [List.take_append_drop] at this
 omega
theorem size1_any (t : Tree) (h : NdH) (v : Value) (B : Bs) (L : List HP) (w : World) (hp : P7 t) (hr : TrR w t h) (hS : St B (OwT 3 (t.kids.map (fun t => (cnt t : Int))) v :: L) w) :
  Calls Tryz.prog 25 #[ndV h, v] w (Ret fun r w' => r = .int .i64 (cnt t : Int) ∧ St B L w') := by
 obtain ⟨k, tag, key, text, cl, al, sl, e, lv, m, d, p, q, kids, a1, m1, a2, m2, a3, m3, a4, m4, H, rfl, rfl, -⟩ := hr.split
 have hc := hp.2
 simp only [cnt] at hc
 rw [show Tree.kids (.mk k tag key text cl al sl (e, lv, m, d, p, q) kids) = kids from rfl, show kids.map (fun t => (cnt t : Int)) = natI (kids.map cnt) by simp [natI]] at hS
 have hsum := cntL_sum kids
 show Calls Tryz.prog 25 #[.agg #[.int .i64 k, .string tag, .string key, .string text, .slice a1 cl.length m1, .slice a2 al.length m2, .slice a3 sl.length m3, .int .i64 e, .int .i64 lv, .int .i64 m, .int .i64 d, .bool p, .bool q, .slice a4 H.length m4], v] w _
 refine enter Tryz.func25 rfl Tryz.ntmps25 rfl (fun a hk => ?_)
 (repeat' (first|((first|refine wx1 ?_|refine wx2 ?_ ?_<;>intro hp|refine s_end hk ?_)<;>(clear hk a;intro a hk))|((first|refine wx3 ?_;intro w b|refine wx4 ?_;intro w|refine wx5 ?_;intro w v);clear hk hS a;intro hS a hk)|refine wx0 ?_|fail))
 refine sg hk (g_callO hk (hf := by kernel_rfl) (hc := sum_any (kids.map cnt) v _ (OwT.rd (hS.rd (A := OwT 3 (natI (kids.map cnt)) v) atx)) (by omega)) (h := ?_));clear hk a;rintro _ w ⟨rfl, hS1⟩ a hk;replace hS := hS.call0 hS1;clear hS1
 rw [hsum] at hk
 (repeat' (first|((first|refine wx1 ?_|refine wx2 ?_ ?_<;>intro hp|refine s_end hk ?_)<;>(clear hk a;intro a hk))|((first|refine wx3 ?_;intro w b|refine wx4 ?_;intro w|refine wx5 ?_;intro w v);clear hk hS a;intro hS a hk)|refine wx0 ?_|fail))
 exact done1 hk (h := ⟨by simp only [cnt];rw [show (1 : Int) + (cntL kids : Int) = ((cntL kids + 1 : Nat) : Int) by omega], hS.sub (Sub.under (Sub.under .refl))⟩)
theorem size_any (t : Tree) (h : NdH) (w0 : World) (hp : P7 t) (hr : TrR w0 t h) : Calls Tryz.prog 5 #[ndV h] w0 (Ret fun v w => v = .int .i64 (cnt t : Int) ∧ St w0 [] w) := by
 have hr0 := hr
 obtain ⟨k, tag, key, text, cl, al, sl, e, lv, m, d, p, q, kids, a1, m1, a2, m2, a3, m3, a4, m4, H, rfl, rfl, -⟩ := hr.split
 show Calls Tryz.prog 5 #[.agg #[.int .i64 k, .string tag, .string key, .string text, .slice a1 cl.length m1, .slice a2 al.length m2, .slice a3 sl.length m3, .int .i64 e, .int .i64 lv, .int .i64 m, .int .i64 d, .bool p, .bool q, .slice a4 H.length m4]] w0 _
 refine enter Tryz.func5 rfl Tryz.ntmps5 rfl (fun a hk => ?_);have hS := St.refl w0
 (repeat' (first|((first|refine wx1 ?_|refine wx2 ?_ ?_<;>intro hp|refine s_end hk ?_)<;>(clear hk a;intro a hk))|((first|refine wx3 ?_;intro w b|refine wx4 ?_;intro w|refine wx5 ?_;intro w v);clear hk hS a;intro hS a hk)|refine wx0 ?_|fail))
 refine sg hk (g_callO hk (hf := by kernel_rfl) (hc := fold_any 25 (by kernel_rfl) (fun t => (cnt t : Int)) P7 P7.kids size1_any _ _ (k, tag, key, text, ⟨a1, cl.length, m1⟩, ⟨a2, al.length, m2⟩, ⟨a3, sl.length, m3⟩, (e, lv, m, d, p, q), ⟨a4, H.length, m4⟩) _ (Nat.lt_succ_self _) hp (hS.rdTr hr0)) (h := ?_));clear hk a;rintro _ w ⟨rfl, hS1⟩ a hk;replace hS := hS.call0 hS1;clear hS1
 (repeat' (first|((first|refine wx1 ?_|refine wx2 ?_ ?_<;>intro hp|refine s_end hk ?_)<;>(clear hk a;intro a hk))|((first|refine wx3 ?_;intro w b|refine wx4 ?_;intro w|refine wx5 ?_;intro w v);clear hk hS a;intro hS a hk)|refine wx0 ?_|fail))
 exact done1 hk (h := ⟨rfl, hS.nil⟩)
set_option maxHeartbeats 4000000 in
theorem rsize_any : ∀ (n : Nat) (t : Tree) (h : NdH) (w0 : World), SizeOf.sizeOf t < n → P7 t → TrR w0 t h → Calls Tryz.prog 14 #[ndV h] w0 (Ret fun v w => v = .int .i64 (cnt t : Int) ∧ St w0 [] w)
 | 0, _, _, _, hn, _, _ => by omega
 | n + 1, t, h, w0, hn, hp, hr => by
  have ih := rsize_any n
  obtain ⟨hfits, hkids⟩ := P7.kids t hp
  obtain ⟨k, tag, key, text, cl, al, sl, e, lv, m, d, p, q, kids, a1, m1, a2, m2, a3, m3, a4, m4, H, rfl, rfl, c1, c2, c3, c4, hF⟩ := hr.split
  obtain ⟨l1, l2, l3, l4, l5⟩ := hfits
  have hHk : H.length = kids.length := hF.1
  have hcn := hp.2
  have hdl := dep_le (.mk k tag key text cl al sl (e, lv, m, d, p, q) kids)
  simp only [cnt, dep] at hcn hdl
  show Calls Tryz.prog 14 #[.agg #[.int .i64 k, .string tag, .string key, .string text, .slice a1 cl.length m1, .slice a2 al.length m2, .slice a3 sl.length m3, .int .i64 e, .int .i64 lv, .int .i64 m, .int .i64 d, .bool p, .bool q, .slice a4 H.length m4]] w0 _
  have c4' := c4
  refine enter Tryz.func14 rfl Tryz.ntmps14 rfl (fun a hk => ?_);have hS := St.refl w0
  (repeat' (first|((first|refine wx1 ?_|refine wx2 ?_ ?_<;>intro hp|refine s_end hk ?_)<;>(clear hk a;intro a hk))|((first|refine wx3 ?_;intro w b|refine wx4 ?_;intro w|refine wx5 ?_;intro w v);clear hk hS a;intro hS a hk)|refine wx0 ?_|fail))
  rename Nat => b1
  replace hk := Kn.kp [3, 7, 8, 9] hk
  refine wp_for H.length (fun i _ => [(3, .int .i64 ((cntL (kids.take i) + 1 : Nat) : Int)), (9, .int .i64 (i : Int))]) (fun _ _ => [pts b1 [.int .i64 k, .string tag, .string key, .string text, .slice a1 cl.length m1, .slice a2 al.length m2, .slice a3 sl.length m3, .int .i64 e, .int .i64 lv, .int .i64 m, .int .i64 d, .bool p, .bool q, .slice a4 H.length m4] 42]) (fun _ _ => True) () hk skx hS.sb trivial ?_
  clear hk hS a
  rintro i - a w hi hk hS -
  by_cases hil : i < H.length
  ·obtain ⟨tk, htk⟩ : ∃ t, kids[i]? = some t := ⟨_, List.getElem?_eq_getElem (by omega)⟩
   obtain ⟨hd0, hx⟩ : ∃ x, H[i]? = some x := ⟨_, List.getElem?_eq_getElem hil⟩
   have hTr := hF.2 i tk hd0 htk hx
   have hpk := hkids tk (List.mem_of_getElem? htk)
   have hlt : SizeOf.sizeOf tk < n := by have := kid_lt (k := k) (tag := tag) (key := key) (text := text) (cl := cl) (at_ := al) (st := sl) (o := (e, lv, m, d, p, q)) (List.mem_of_getElem? htk);omega
   have hct := cntL_take kids (i + 1)
   have hst : ((cntL (kids.take (i + 1)) + 1 : Nat) : Int) = ((cntL (kids.take i) + 1 : Nat) : Int) + (cnt tk : Int) := by rw [take_snoc htk, cntL_snoc];omega
   obtain ⟨k0, tag0, key0, text0, ⟨x1, x2, x3⟩, ⟨y1, y2, y3⟩, ⟨z1, z2, z3⟩, ⟨e0, lv0, m0, d0, p0, q0⟩, ⟨u1, u2, u3⟩⟩ := hd0
   have hv1 := hS.rdT c4
   (repeat' (first|((first|refine wx1 ?_|refine wx2 ?_ ?_<;>intro hp|refine s_end hk ?_)<;>(clear hk a;intro a hk))|((first|refine wx3 ?_;intro w b|refine wx4 ?_;intro w|refine wx5 ?_;intro w v);clear hk hS a;intro hS a hk)|refine wx0 ?_|fail))
   refine sg hk (g_callO hk (hf := by kernel_rfl) (hc := ih tk (k0, tag0, key0, text0, ⟨x1, x2, x3⟩, ⟨y1, y2, y3⟩, ⟨z1, z2, z3⟩, (e0, lv0, m0, d0, p0, q0), ⟨u1, u2, u3⟩) _ hlt hpk (hS.rdTr hTr)) (h := ?_));clear hk a;rintro _ w ⟨rfl, hS1⟩ a hk;replace hS := hS.call0 hS1;clear hS1
   (repeat' (first|((first|refine wx1 ?_|refine wx2 ?_ ?_<;>intro hp|refine s_end hk ?_)<;>(clear hk a;intro a hk))|((first|refine wx3 ?_;intro w b|refine wx4 ?_;intro w|refine wx5 ?_;intro w v);clear hk hS a;intro hS a hk)|refine wx0 ?_|fail))
   rw [← hst] at hk
   exact ⟨hil, (), hk.sd, hS.sb, trivial⟩
  ·have hii : i = kids.length := by omega
   subst hii
   rw [List.take_length] at hk
   (repeat' (first|((first|refine wx1 ?_|refine wx2 ?_ ?_<;>intro hp|refine s_end hk ?_)<;>(clear hk a;intro a hk))|((first|refine wx3 ?_;intro w b|refine wx4 ?_;intro w|refine wx5 ?_;intro w v);clear hk hS a;intro hS a hk)|refine wx0 ?_|fail))
   exact done1 hk (h := ⟨by simp only [cnt], hS.nil⟩)
end Go.Proofs.YtnjmonkehjlaoaaGreatDoor
namespace Go.Proofs.YtnjmonkehjlaoaaGreatDoor
open Go.RowKit
def RoP (R : Value → World → Prop) (S : List PanicEntry → World → Prop) (e : Ending) (w : World) : Prop := (∃ v, e = .returned v ∧ R v w) ∨ ∃ ch, e = .panicked ch ∧ S ch w
theorem RoP.mono {R R' : Value → World → Prop} {S S' : List PanicEntry → World → Prop} {e : Ending} {w : World} (h : RoP R S e w) (hr : ∀ v w, R v w → R' v w) (hs : ∀ ch w, S ch w → S' ch w) : RoP R' S' e w :=
 h.elim (fun ⟨v, he, hv⟩ => .inl ⟨v, he, hr v w hv⟩) (fun ⟨ch, he, hv⟩ => .inr ⟨ch, he, hs ch w hv⟩)
def DoneP (P : Program) (fn : Func) (R : Value → World → Prop) (S : List PanicEntry → World → Prop) : Exit → Act → World → Prop := bodyPost P fn (RoP R S)
section
variable {P : Program} {ops : Array Oper} {Q : Exit → Act → World → Prop} {a : Act} {w w' : World} {rest : List Oper} {n : Nat} {l : List (Nat × Value)} {df : List Deferred} {rr : Option Nat}
 {d : Nat} {dst : Option Nat} {ty : TypeId} {pos : String} {af : Array Edge} {g : Option (Nat × Bool)} {R R' : Value → World → Prop} {S S' : List PanicEntry → World → Prop} {fn : Func}
theorem enterP {f : FuncId} {c : Code} {args : List Value} (hf : P.funcs[f]? = some fn) (hb : fn.body = some c) (hnt : fn.ntmps = n) (hn : Nat.ble args.length n = true)
  (h : ∀ a, Kn [] n a (initK 0 args) → c.wpIn (FR none) 0 P (DoneP P fn R S) a w) : Calls P f args.toArray w (RoP R S) := by
 subst hnt
 exact callsIn_wide.1 (callsIn_of_wp (F := Fence.wide) (n := 0) hf hb trivial (h _ (Kn.init (Nat.le_of_ble_eq_true hn))) rfl)
theorem DoneP.of {e : Exit} (he : e = .ret ∨ e = .normal) (h : Done P fn R e a w) : DoneP P fn R S e a w := by
 rcases he with rfl | rfl
 ·obtain ⟨h1, v, h2, h3⟩ := h;exact ⟨h1, v, h2, .inl h3⟩
 ·obtain ⟨h1, v, h2, h3⟩ := h;exact ⟨h1, v, h2, .inl h3⟩
theorem DoneP.ret (h : Done P fn R .ret a w) : DoneP P fn R S .ret a w := .of (.inl rfl) h
theorem DoneP.panic {ch : List PanicEntry} (hk : Kn [] n a l) (h : S ch w) : DoneP P fn R S (.panic ch) a w := ⟨hk.defers, .inr ⟨ch, rfl, h⟩⟩
theorem then_panic {K : Act → World → Prop} {ch : List PanicEntry} (h : Q (.panic ch) a w) : Exit.then K Q (.panic ch) a w := h
theorem inBlock_panic {id : Nat} {ch : List PanicEntry} (h : Q (.panic ch) a w) : Exit.inBlock id Q (.panic ch) a w := h
def GivesP (P : Program) (o : Oper) (a : Act) (w : World) (R : Value → World → Prop) (S : List PanicEntry → World → Prop) : Prop :=
 (∀ c, o.op ≠ .defer c) ∧ match (execOp a.eval o).run P w with
 | .ok (.value v) w' => R v w'
 | .ok .skip w' => R undef w'
 | .ok (.enter f args) w' => Calls P f args w' (RoP R S)
 | .halt (.panic v) w' => S [{ v, recovered := false }] w'
 | _ => False
theorem GivesP.wp {o : Oper} {K : Act → World → Prop} (h : GivesP P o a w R S) (hK : ∀ v w', R v w' → K (a.put o.dst v) w') (hQ : ∀ ch w', S ch w' → Q (.panic ch) a w') : o.wpIn (FR rr) 0 P a w K Q := by
 have hs : (o.semAt (FR rr).round a.eval).run P w = (execOp a.eval o).run P w := by rw [Oper.semAt_eq _ _ _ h.1]
 replace h := h.2
 refine ⟨fun _ _ => trivial, ?_⟩
 rw [hs]
 generalize (execOp a.eval o).run P w = r at *
 cases r with
 | halt x w' =>
  cases x <;> first | exact hQ _ _ h | exact h.elim
 | ok nx w' =>
  cases nx <;> first
   | exact hK _ _ h
   | exact h.elim
   | exact ⟨fun h => (by cases h), CallsIn.fr (Calls.mono h (fun e w'' hh => by
     rcases hh with ⟨v, he, hv⟩ | ⟨ch, he, hv⟩
     ·subst he;exact hK _ _ hv
     ·subst he;exact hQ _ _ hv))⟩
theorem sgP {o : Op} (hk : Kn df n a l) (h : GivesP P ⟨some d, o, ty, pos, af, g⟩ a w (fun v w' => ∀ a', Kn df n a' ((d, v) :: l) → wpListIn (FR rr) 0 P ops Q rest a' w') (fun ch w' => ∀ a', Kn df n a' l → Q (.panic ch) a' w'))
  (hg : gdK ops l g = some true := by rfl) (hd : Nat.blt d n = true := by rfl) : wpListIn (FR rr) 0 P ops Q (⟨some d, o, ty, pos, af, g⟩ :: rest) a w := by
 unfold wpListIn
 rw [if_pos (wanted_of (o := ⟨some d, o, ty, pos, af, g⟩) hk hg)]
 exact h.wp (fun v w' hv => hv _ (hk.put (d := some d) hd v)) (fun ch w' hv => hv _ hk)
theorem suP {o : Op} (hk : Kn df n a l) (h : GivesP P ⟨none, o, ty, pos, af, g⟩ a w (fun _ w' => ∀ a', Kn df n a' l → wpListIn (FR rr) 0 P ops Q rest a' w') (fun ch w' => ∀ a', Kn df n a' l → Q (.panic ch) a' w'))
  (hg : gdK ops l g = some true := by rfl) : wpListIn (FR rr) 0 P ops Q (⟨none, o, ty, pos, af, g⟩ :: rest) a w := by
 unfold wpListIn
 rw [if_pos (wanted_of (o := ⟨none, o, ty, pos, af, g⟩) hk hg)]
 exact h.wp (fun v w' hv => hv _ hk) (fun ch w' hv => hv _ hk)
theorem GivesP.mono {o : Oper} (h : GivesP P o a w R S) (hr : ∀ v w, R v w → R' v w) (hs : ∀ ch w, S ch w → S' ch w) : GivesP P o a w R' S' := by
 refine ⟨h.1, ?_⟩
 replace h := h.2
 generalize (execOp a.eval o).run P w = r at *
 cases r with
 | halt x w' => cases x <;> first | exact hs _ _ h | exact h
 | ok nx w' => cases nx <;> first | exact hr _ _ h | exact Calls.mono h (fun e w hh => hh.mono hr hs) | exact h
theorem g_callP {f : FuncId} {xs : List Operand} {vs : List Value} {ts : Array TypeId} (hk : Kn df n a l) (hxs : evs l xs = some vs := by rfl) (hf : callable P f = true) (hc : Calls P f vs.toArray w (RoP R S)) :
  GivesP P ⟨dst, .call { callee := .value (.func f), args := xs.toArray, argTypes := ts }, ty, pos, af, g⟩ a w R S := by
 refine ⟨fun c => by simp, ?_⟩
 have he := evs_map hk hxs
 have h1 : (#[] ++ (List.toArray xs).map a.eval ++ #[] : Array Value) = vs.toArray := by simp [he]
 have h2 : (execOp a.eval ⟨dst, .call { callee := .value (.func f), args := xs.toArray, argTypes := ts }, ty, pos, af, g⟩).run P w = .ok (.enter f vs.toArray) w := by rw [← h1];exact callFunc_run hf
 rw [h2]
 exact hc
def DoneD (P : Program) (fn : Func) (R : Value → World → Prop) : Exit → Act → World → Prop := bodyPostDIn Fence.wide 0 P fn (Ret R)
theorem enterD {f : FuncId} {c : Code} {args : List Value} (hf : P.funcs[f]? = some fn) (hb : fn.body = some c) (hnt : fn.ntmps = n) (hn : Nat.ble args.length n = true)
  (h : ∀ a, Kn [] n a (initK 0 args) → c.wpIn (FR none) 0 P (DoneD P fn R) a w) : Calls P f args.toArray w (Ret R) := by
 subst hnt
 exact callsIn_wide.1 (callsIn_of_wp_defers (F := Fence.wide) (n := 0) hf hb trivial (h _ (Kn.init (Nat.le_of_ble_eq_true hn))) rfl)
theorem DoneD.done (hk : Kn [] n a l) {v : Value} (hr : (results fn a.tmps).run P w = .ok v w) (h : R v w) : DoneD P fn R .ret a w := by
 show LeavesIn _ _ _ _ _ _ a.defers .returning w
 rw [hk.defers]
 exact ⟨v, hr, v, rfl, h⟩
theorem DoneD.leave {e : Exit} {u : FrameMode} {f : FuncId} {fv : Fn} {cap dargs args : Array Value} {R2 : World → Prop} (he : (e = .ret ∧ u = .returning) ∨ (e = .normal ∧ u = .returning) ∨ ∃ ch, e = .panic ch ∧ u = .panicking ch)
  (hk : Kn [{ target := .fn fv cap, args := dargs }] n a l) (hi : (invoke (.fn fv cap) dargs).run P w = .ok (.enter f args) w)
  (hc : CallsDIn Fence.wide 0 P f args u w fun e u' w' => (∃ v, e = .returned v) ∧ settle u' = .returning ∧ R2 w')
  (hr : ∀ w', R2 w' → ∃ v, (results fn a.tmps).run P w' = .ok v w' ∧ R v w') : DoneD P fn R e a w := by
 have key : LeavesIn Fence.wide 0 P fn a.tmps (Ret R) a.defers u w := by
  rw [hk.defers]
  refine leavesIn_cons (by rcases he with ⟨-, rfl⟩ | ⟨-, rfl⟩ | ⟨ch, -, rfl⟩ <;> simp) (fun h => by cases h) hi (fun _ _ => trivial) (hc.mono fun e u' w' hh => ?_)
  obtain ⟨⟨v, rfl⟩, hu, hR⟩ := hh
  show LeavesIn _ _ _ _ _ _ [] (settle u') w'
  rw [hu]
  obtain ⟨v', h1, h2⟩ := hr w' hR
  exact ⟨v', h1, v', rfl, h2⟩
 rcases he with ⟨rfl, rfl⟩ | ⟨rfl, rfl⟩ | ⟨ch, rfl, rfl⟩ <;> exact key
theorem enterR {f : FuncId} {c : Code} {args : List Value} {u : FrameMode} {R2 : Ending → FrameMode → World → Prop} (hf : P.funcs[f]? = some fn) (hb : fn.body = some c) (hnt : fn.ntmps = n) (hn : Nat.ble args.length n = true)
  (h : ∀ (a : Act) (c₀ : Frame) (cs : List Frame), c₀.mode = u → Kn [] n a (initK 0 args) → c.wpSIn Fence.wide 0 P (bodyPostS P fn c₀ cs R2) a (c₀ :: cs) w) : CallsDIn Fence.wide 0 P f args.toArray u w R2 := by
 subst hnt
 exact callsDIn_of_wpSIn hf hb trivial (fun c₀ cs hu => h _ c₀ cs hu (Kn.init (Nat.le_of_ble_eq_true hn)))
theorem wpS_rest {c : Code} {Q : Exit → Act → List Frame → World → Prop} {cs : List Frame} (h : c.wpIn (FR none) 0 P (fun e a' w' => Q e a' cs w') a w) : c.wpSIn Fence.wide 0 P Q a cs w := wpSIn_of_wpIn rfl h
end
end Go.Proofs.YtnjmonkehjlaoaaGreatDoor
namespace Go.Proofs.YtnjmonkehjlaoaaGreatDoor
open Go.RowKit
section
variable {P : Program} {ops : Array Oper} {Q : Exit → Act → World → Prop} {a : Act} {w w' : World} {rest : List Oper} {n : Nat} {l : List (Nat × Value)} {df : List Deferred} {rr : Option Nat}
 {d : Nat} {dst : Option Nat} {ty : TypeId} {pos : String} {af : Array Edge} {g : Option (Nat × Bool)} {R R' : Value → World → Prop} {S S' : List PanicEntry → World → Prop} {fn : Func}
theorem g_mkI {x : Operand} {T : TypeId} {v : Value} (hk : Kn df n a l) (h : R (.iface T v) w) (hT : P.concrete T = true) (hx : ev l x = some v := by rfl) :
  Gives P ⟨dst, .makeInterface T x, ty, pos, af, g⟩ a w R :=
 givesv (v := .iface T v) (by simp [execOp, hk.eval hx, run_makeInterface w T v hT]) h
theorem g_panicO {x : Operand} {T : TypeId} {v : Value} (hk : Kn df n a l) (h : S [{ v := .iface T v, recovered := false }] w) (hx : ev l x = some (.iface T v) := by rfl) :
  GivesP P ⟨dst, .panic x, ty, pos, af, g⟩ a w R S := by
 refine ⟨fun c => by simp, ?_⟩
 have h1 : (execOp a.eval ⟨dst, .panic x, ty, pos, af, g⟩).run P w = .halt (.panic (.iface T v)) w := by
  simp [execOp, hk.eval hx, run_panic_iface]
 rw [h1];exact h
theorem g_asY {x : Operand} {xT T : TypeId} {v : Value} {fs : Array Field} (hk : Kn df n a l) (h : R (.tuple #[v, .bool true]) w) (hT : P.underlying T = some (.struct fs)) (hx : ev l x = some (.iface T v) := by rfl) :
  Gives P ⟨dst, .typeAssert x xT T true, ty, pos, af, g⟩ a w R :=
 givesv (v := .tuple #[v, .bool true]) (by simp [execOp, hk.eval hx, Instr.typeAssert, run_underlying hT]) h
theorem g_asN {x : Operand} {xT T : TypeId} {z : Value} {fs : Array Field} (hk : Kn df n a l) (h : R (.tuple #[z, .bool false]) w) (hT : P.underlying T = some (.struct fs)) (hz : zeroOf P T = some z) (hx : ev l x = some .nilIface := by rfl) :
  Gives P ⟨dst, .typeAssert x xT T true, ty, pos, af, g⟩ a w R :=
 givesv (v := .tuple #[z, .bool false]) (by simp [execOp, hk.eval hx, Instr.typeAssert, run_underlying hT, zeroOf_run hz]) h
theorem g_neI {x : Operand} {t t' : TypeId} (hk : Kn df n a l) (h : R (.bool false) w) (ht : P.underlying t = some (.interface (P.methodsAt t))) (hx : ev l x = some .nilIface := by rfl) :
  Gives P ⟨dst, .binOp .neq t x (.const .nilIface) t', ty, pos, af, g⟩ a w R :=
 givesv (v := .bool false) (by
  have h2 : a.eval (.const .nilIface) = .nilIface := rfl
  have h3 : eqGuard .neq t x (.const .nilIface) .nilIface .nilIface = pure () := by cases x <;> rfl
  simp [execOp, hk.eval hx, h2, h3, run_neq_nil_nil w t ht]) h
theorem su_defer {c : Call} {D : Deferred} (hk : Kn df n a l) (h : ∀ a', Kn (D :: df) n a' l → wpListIn (FR none) 0 P ops Q rest a' w) (hr : (resolve a.eval c ty).run P w = .ok D w)
  (hg : gdK ops l g = some true := by rfl) : wpListIn (FR none) 0 P ops Q (⟨none, .defer c, ty, pos, af, g⟩ :: rest) a w := by
 unfold wpListIn
 rw [if_pos (wanted_of (o := ⟨none, .defer c, ty, pos, af, g⟩) hk hg)]
 refine ⟨fun _ _ => trivial, ?_⟩
 have hs : (Oper.semAt (FR none).round a.eval ⟨none, .defer c, ty, pos, af, g⟩).run P w = .ok (.defer D) w := by
  show (Oper.semAt none a.eval _).run P w = _
  rw [Oper.semAt_none]
  simp [execOp, hr]
 rw [hs]
 exact h _ ⟨hk.size, hk.get, by simp [Act.put, hk.defers]⟩
theorem resolve_fn {x : Operand} {f : FuncId} {first cap : Array Value} (hk : Kn df n a l) (hx : ev l x = some (.func (.func f) first cap) := by rfl) {ts : Array TypeId} :
  (resolve a.eval { callee := .value x, args := #[], argTypes := ts } ty).run P w = .ok { target := .fn (.func f) cap, args := first } w := by
 simp [resolve, hk.eval hx, Deferred.ofValue]
section
variable {c₀ : Frame} {cs : List Frame} {QS : Exit → Act → List Frame → World → Prop} {id d1 d2 : Nat} {ts : Array TypeId} {ty1 ty2 : TypeId} {p1 p2 : String} {f1 f2 : Array Edge}
def recOps (d1 d2 : Nat) (ts : Array TypeId) (ty1 ty2 : TypeId) (p1 p2 : String) (f1 f2 : Array Edge) : Array Oper :=
 #[⟨some d1, .call { callee := .builtin .recover, args := #[], argTypes := ts }, ty1, p1, f1, none⟩, ⟨some d2, .assign (.tmp d1), ty2, p2, f2, none⟩]
theorem run_recover {ρ : Operand → Value} {o : Oper} (ho : o.op = .call { callee := .builtin .recover, args := #[], argTypes := ts }) : (execOp ρ o).run P w = .ok .recover w := by
 simp [execOp, ho, resolve, invoke, builtin]
theorem wanted_none {o : Oper} (h : o.guard = none) (y : Nat → Option Bool) : Region.wanted o y = true := by simp [Region.wanted, h]
theorem q_rec0 (hu : c₀.mode = .returning) (hk : Kn df n a l) (h1 : Nat.blt d1 n = true) (h2 : Nat.blt d2 n = true) (hne : Nat.beq d1 d2 = false)
  (h : ∀ a', Kn df n a' ((d2, .nilIface) :: (d1, .nilIface) :: l) → QS .normal a' (c₀ :: cs) w) :
  (Code.region id (recOps d1 d2 ts ty1 ty2 p1 p2 f1 f2) false).wpSIn Fence.wide 0 P QS a (c₀ :: cs) w := by
 apply wpSIn_region
 have e : List.range (recOps d1 d2 ts ty1 ty2 p1 p2 f1 f2).size = [0, 1] := rfl
 rw [e]
 have k1 := hk.put (d := some d1) h1 .nilIface
 have k2 := k1.put (d := some d2) h2 .nilIface
 have hv : (a.put (some d1) .nilIface).eval (.tmp d1) = .nilIface := k1.eval (by simp [ev, putK, lk])
 have hrec : recoverD (c₀ :: cs) = none := by simp [recoverD, hu]
 simp only [wpOpsSIn, recOps, List.getElem?_toArray, List.getElem?_cons_zero, List.getElem?_cons_succ, wanted_none, if_true]
 rw [run_recover rfl]
 simp only [hrec]
 refine ⟨fun _ _ => trivial, fun _ _ => trivial, ?_⟩
 have ha : (execOp (a.put (some d1) .nilIface).eval ⟨some d2, .assign (.tmp d1), ty2, p2, f2, none⟩).run P w = .ok (.value .nilIface) w := by
  simp only [execOp, hv];rfl
 rw [ha]
 exact h _ k2
theorem q_rec1 {v : Value} (hu : c₀.mode = .panicking [{ v, recovered := false }]) (hk : Kn df n a l) (h1 : Nat.blt d1 n = true) (h2 : Nat.blt d2 n = true) (hne : Nat.beq d1 d2 = false)
  (h : ∀ a', Kn df n a' ((d2, v) :: (d1, v) :: l) → QS .normal a' ({ c₀ with mode := .panicking [{ v, recovered := true }] } :: cs) w) :
  (Code.region id (recOps d1 d2 ts ty1 ty2 p1 p2 f1 f2) false).wpSIn Fence.wide 0 P QS a (c₀ :: cs) w := by
 apply wpSIn_region
 have e : List.range (recOps d1 d2 ts ty1 ty2 p1 p2 f1 f2).size = [0, 1] := rfl
 rw [e]
 have k1 := hk.put (d := some d1) h1 v
 have k2 := k1.put (d := some d2) h2 v
 have hv : (a.put (some d1) v).eval (.tmp d1) = v := k1.eval (by simp [ev, putK, lk])
 have hrec : recoverD (c₀ :: cs) = some (v, { c₀ with mode := .panicking [{ v, recovered := true }] } :: cs) := by simp [recoverD, hu]
 simp only [wpOpsSIn, recOps, List.getElem?_toArray, List.getElem?_cons_zero, List.getElem?_cons_succ, wanted_none, if_true]
 rw [run_recover rfl]
 simp only [hrec]
 refine ⟨fun _ _ => trivial, fun _ _ => trivial, ?_⟩
 have ha : (execOp (a.put (some d1) v).eval ⟨some d2, .assign (.tmp d1), ty2, p2, f2, none⟩).run P w = .ok (.value v) w := by
  simp only [execOp, hv];rfl
 rw [ha]
 exact h _ k2
theorem q_rest {y : Code} {R2 : World → Prop} {RS : Ending → FrameMode → World → Prop} {u : FrameMode} {cf : Frame} (hcf : cf = { c₀ with mode := u }) (hr : ∀ v w, R2 w → RS (.returned v) u w)
  (h : y.wpIn (FR none) 0 P (Done P fn (fun _ w => R2 w)) a w) : y.wpSIn Fence.wide 0 P (bodyPostS P fn c₀ cs RS) a (cf :: cs) w := by
 subst hcf
 refine wpS_rest (wpIn_mono h (fun e a w hd => ?_))
 cases e with
 | normal => obtain ⟨h1, v, h2, v', h3, h4⟩ := hd;exact ⟨h1, u, rfl, v, h2, hr _ _ h4⟩
 | ret => obtain ⟨h1, v, h2, v', h3, h4⟩ := hd;exact ⟨h1, u, rfl, v, h2, hr _ _ h4⟩
 | panic ch => obtain ⟨-, v', h3, -⟩ := hd;cases h3
 | exit id => exact hd.elim
 | goto id => exact hd.elim
 | outgrown => obtain ⟨v', h3, -⟩ := hd;cases h3
end
end
section
variable {P : Program} {Q : Exit → Act → World → Prop} {a : Act} {w w' : World} {n : Nat} {l : List (Nat × Value)} {df : List Deferred} {rr : Option Nat} {ops : Array Oper} {K : Act → World → Prop}
 {d : Nat} {dst : Option Nat} {ty : TypeId} {pos : String} {af : Array Edge} {g : Option (Nat × Bool)}
abbrev Any (rr : Option Nat) (P : Program) (ops : Array Oper) (Q : Exit → Act → World → Prop) (k : Nat) (listed : Array Bool) (a : Act) (w : World) : Prop := wpAnyIn (FR rr) 0 P .any ops Q k listed a w
theorem an_end {k : Nat} {listed : Array Bool} (hr : Region.ready .any ops listed = []) (h : Q .normal a w) : Any rr P ops Q k listed a w := by
 cases k with
 | zero => exact ⟨hr, h⟩
 | succ k => exact ⟨fun _ => h, fun i hi => by rw [hr] at hi;cases hi⟩
theorem an_step {k : Nat} {listed : Array Bool} {i : Nat} {rs : List Nat} (hr : Region.ready .any ops listed = i :: rs)
  (h : ∀ j ∈ i :: rs, wpOpIn (FR rr) 0 P ops Q j (Any rr P ops Q k (listed.setIfInBounds j true)) a w) : Any rr P ops Q (k + 1) listed a w :=
 ⟨fun e => (by rw [hr] at e;cases e), fun j hj => h j (by rw [← hr];exact hj)⟩
theorem an_op {o : Op} {i : Nat} (ho : ops[i]? = some ⟨some d, o, ty, pos, af, none⟩) (hk : Kn df n a l) (h : Gives P ⟨some d, o, ty, pos, af, none⟩ a w (fun v w' => ∀ a', Kn df n a' ((d, v) :: l) → K a' w')) (hd : Nat.blt d n = true := by rfl) :
  wpOpIn (FR rr) 0 P ops Q i K a w := by
 unfold wpOpIn
 simp only [ho]
 rw [if_pos (wanted_none rfl _)]
 exact h.wp (fun v w' hv => hv _ (hk.put (d := some d) hd v))
theorem an_opu {o : Op} {i : Nat} (ho : ops[i]? = some ⟨none, o, ty, pos, af, none⟩) (hk : Kn df n a l) (h : Gives P ⟨none, o, ty, pos, af, none⟩ a w (fun _ w' => ∀ a', Kn df n a' l → K a' w')) :
  wpOpIn (FR rr) 0 P ops Q i K a w := by
 unfold wpOpIn
 simp only [ho]
 rw [if_pos (wanted_none rfl _)]
 exact h.wp (fun v w' hv => hv _ hk)
theorem an_opP {o : Op} {i : Nat} (ho : ops[i]? = some ⟨some d, o, ty, pos, af, none⟩) (hk : Kn df n a l)
  (h : GivesP P ⟨some d, o, ty, pos, af, none⟩ a w (fun v w' => ∀ a', Kn df n a' ((d, v) :: l) → K a' w') (fun ch w' => Q (.panic ch) a w')) (hd : Nat.blt d n = true := by rfl) :
  wpOpIn (FR rr) 0 P ops Q i K a w := by
 unfold wpOpIn
 simp only [ho]
 rw [if_pos (wanted_none rfl _)]
 exact h.wp (fun v w' hv => hv _ (hk.put (d := some d) hd v)) (fun ch w' hv => hv)
end
end Go.Proofs.YtnjmonkehjlaoaaGreatDoor
namespace Go.Proofs.YtnjmonkehjlaoaaGreatDoor
open Go.RowKit
set_option maxRecDepth 100000
attribute [local irreducible] Go.Code.wpIn Go.wpListIn Go.Calls Gives Go.Exit.then Go.Exit.inBlock Done ObxE
abbrev rdrC (s : ByteArray) (i o : Nat) : List Value := [.string s, .int .i64 (i : Int), .int .i64 (o : Int)]
abbrev rdr (b : Nat) (s : ByteArray) (i o : Nat) : HP := pts b (rdrC s i o) 69
abbrev thrown (p : Nat) (e : Int) : List PanicEntry := [{ v := .iface 65 (.agg #[.int .i64 (p : Int), .int .i64 e]), recovered := false }]
theorem fail_any (p : Nat) (e : Int) (w0 : World) : Calls Tryz.prog 23 #[.int .i64 (p : Int), .int .i64 e] w0 (RoP (fun _ _ => False) (fun ch w => ch = thrown p e ∧ St w0 [] w)) := by
 refine enterP Tryz.func23 rfl Tryz.ntmps23 rfl (fun a hk => ?_);have hS := St.refl w0
 (repeat' (first|((first|refine wx1 ?_|refine wx2 ?_ ?_<;>intro hp|refine s_end hk ?_)<;>(clear hk a;intro a hk))|((first|refine wx3 ?_;intro w b|refine wx4 ?_;intro w|refine wx5 ?_;intro w v);clear hk hS a;intro hS a hk)|refine wx0 ?_|fail))
 refine sg hk (g_mkI hk ?_ (by kernel_rfl));clear hk a;intro a hk
 refine suP hk ((g_panicO (S := fun ch w => ch = thrown p e ∧ St w0 [] w) (R := fun _ _ => False) hk ⟨rfl, hS⟩).mono (fun v w h => h.elim) (fun ch w h a hk => ?_))
 exact DoneP.panic hk h
theorem worded_any (b : UInt8) (w0 : World) : Calls Tryz.prog 110 #[.int .u8 (b.toNat : Nat)] w0 (Ret fun v w => v = .bool (visB b) ∧ St w0 [] w) := by
 refine enter Tryz.func110 rfl Tryz.ntmps110 rfl (fun a hk => ?_);have hS := St.refl w0
 (repeat' (first|((first|refine wx1 ?_|refine wx2 ?_ ?_<;>intro hp|refine s_end hk ?_)<;>(clear hk a;intro a hk))|((first|refine wx3 ?_;intro w b|refine wx4 ?_;intro w|refine wx5 ?_;intro w v);clear hk hS a;intro hS a hk)|refine wx0 ?_|fail))
 all_goals exact done1 hk (h := ⟨by unfold visB;first | rw [decide_eq_true (by omega)] | rw [decide_eq_false (by omega)], hS.nil⟩)
section
variable {B : Bs} {L : List HP} {w : World}
theorem skip_any (b : Nat) (s : ByteArray) (i o : Nat) (hs : s.size ≤ 100000000) (hi : i ≤ s.size) (hS : St B (rdr b s i o :: L) w) :
  Calls Tryz.prog 22 #[.pointer (some ⟨b, 0, none⟩)] w (Ret fun _ w' => St B (rdr b s (scan blkB s i) o :: L) w') := by
 refine enter Tryz.func22 rfl Tryz.ntmps22 rfl (fun a hk => ?_)
 (repeat' (first|((first|refine wx1 ?_|refine wx2 ?_ ?_<;>intro hp|refine s_end hk ?_)<;>(clear hk a;intro a hk))|((first|refine wx3 ?_;intro w b|refine wx4 ?_;intro w|refine wx5 ?_;intro w v);clear hk hS a;intro hS a hk)|refine wx0 ?_|fail))
 refine wp_while (fun _ => []) (fun x => rdr b s x o :: L) (fun x => x ≤ s.size ∧ scan blkB s x = scan blkB s i) (fun x => s.size - x) i hk skx hS.sb ⟨hi, rfl⟩ ?_
 clear hk hS a
 rintro x a w hk hS ⟨hx, hsc⟩
 by_cases hxl : x < s.size
 ·by_cases hb : s[x].toNat = 32
  ·have hst := scan_yes (p := blkB) hxl (by unfold blkB;rw [decide_eq_true hb])
   (repeat' (first|((first|refine wx1 ?_|refine wx2 ?_ ?_<;>intro hp|refine s_end hk ?_)<;>(clear hk a;intro a hk))|((first|refine wx3 ?_;intro w b|refine wx4 ?_;intro w|refine wx5 ?_;intro w v);clear hk hS a;intro hS a hk)|refine wx0 ?_|fail))
   refine wp_drawn 22 mixed (by kernel_rfl) hk hS ?_;clear hk hS a
   (repeat' (first|(show ObxE _ _ _ _ _ _ _ _ _ (_::_) _ _ _;first|refine ox1 ?_|refine ox2 ?_ ?_<;>intro hp)|fail))
   refine obe_nil ⟨rfl, ?_⟩;intro us a w hk hS
   (repeat' (first|((first|refine wx1 ?_|refine wx2 ?_ ?_<;>intro hp|refine s_end hk ?_)<;>(clear hk a;intro a hk))|((first|refine wx3 ?_;intro w b|refine wx4 ?_;intro w|refine wx5 ?_;intro w v);clear hk hS a;intro hS a hk)|refine wx0 ?_|fail))
   exact ⟨x + 1, by omega, hk.sd, hS.sb, by omega, by rw [← hst];exact hsc⟩
  ·have hst := scan_no (p := blkB) hxl (by unfold blkB;rw [decide_eq_false hb];decide)
   rw [hst] at hsc
   (repeat' (first|((first|refine wx1 ?_|refine wx2 ?_ ?_<;>intro hp|refine s_end hk ?_)<;>(clear hk a;intro a hk))|((first|refine wx3 ?_;intro w b|refine wx4 ?_;intro w|refine wx5 ?_;intro w v);clear hk hS a;intro hS a hk)|refine wx0 ?_|fail))
   refine wp_drawn 22 mixed (by kernel_rfl) hk hS ?_;clear hk hS a
   (repeat' (first|(show ObxE _ _ _ _ _ _ _ _ _ (_::_) _ _ _;first|refine ox1 ?_|refine ox2 ?_ ?_<;>intro hp)|fail))
   refine obe_nil ⟨rfl, ?_⟩;intro us a w hk hS
   (repeat' (first|((first|refine wx1 ?_|refine wx2 ?_ ?_<;>intro hp|refine s_end hk ?_)<;>(clear hk a;intro a hk))|((first|refine wx3 ?_;intro w b|refine wx4 ?_;intro w|refine wx5 ?_;intro w v);clear hk hS a;intro hS a hk)|refine wx0 ?_|fail))
   rw [hsc] at hS
   exact done0n hk rfl (h := hS)
 ·have hst := scan_end (p := blkB) hxl
  rw [hst] at hsc
  (repeat' (first|((first|refine wx1 ?_|refine wx2 ?_ ?_<;>intro hp|refine s_end hk ?_)<;>(clear hk a;intro a hk))|((first|refine wx3 ?_;intro w b|refine wx4 ?_;intro w|refine wx5 ?_;intro w v);clear hk hS a;intro hS a hk)|refine wx0 ?_|fail))
  refine wp_drawn 22 mixed (by kernel_rfl) hk hS ?_;clear hk hS a
  (repeat' (first|(show ObxE _ _ _ _ _ _ _ _ _ (_::_) _ _ _;first|refine ox1 ?_|refine ox2 ?_ ?_<;>intro hp)|fail))
  refine obe_nil ⟨rfl, ?_⟩;intro us a w hk hS
  (repeat' (first|((first|refine wx1 ?_|refine wx2 ?_ ?_<;>intro hp|refine s_end hk ?_)<;>(clear hk a;intro a hk))|((first|refine wx3 ?_;intro w b|refine wx4 ?_;intro w|refine wx5 ?_;intro w v);clear hk hS a;intro hS a hk)|refine wx0 ?_|fail))
  rw [hsc] at hS
  exact done0n hk rfl (h := hS)
def nextB (s : ByteArray) (j : Nat) : Int := if h : j < s.size then (s[j].toNat : Int) else 0
theorem next_any (b : Nat) (s : ByteArray) (i o : Nat) (hs : s.size ≤ 100000000) (hi : i ≤ s.size) (hS : St B (rdr b s i o :: L) w) :
  Calls Tryz.prog 40 #[.pointer (some ⟨b, 0, none⟩)] w (Ret fun v w' => v = .int .u8 (nextB s (scan blkB s i)) ∧ St B (rdr b s (scan blkB s i) o :: L) w') := by
 have hle := scan_le blkB s _ i (Nat.le_refl _) hi
 refine enter Tryz.func40 rfl Tryz.ntmps40 rfl (fun a hk => ?_)
 (repeat' (first|((first|refine wx1 ?_|refine wx2 ?_ ?_<;>intro hp|refine s_end hk ?_)<;>(clear hk a;intro a hk))|((first|refine wx3 ?_;intro w b|refine wx4 ?_;intro w|refine wx5 ?_;intro w v);clear hk hS a;intro hS a hk)|refine wx0 ?_|fail))
 refine sg hk (g_callO hk (hf := by kernel_rfl) (hc := skip_any b s i o hs hi hS) (h := ?_));clear hk hS a;intro vr w hS a hk
 generalize scan blkB s i = j at *
 by_cases hj : j < s.size
 ·(repeat' (first|((first|refine wx1 ?_|refine wx2 ?_ ?_<;>intro hp|refine s_end hk ?_)<;>(clear hk a;intro a hk))|((first|refine wx3 ?_;intro w b|refine wx4 ?_;intro w|refine wx5 ?_;intro w v);clear hk hS a;intro hS a hk)|refine wx0 ?_|fail))
  (repeat' (first|((first|refine wx1 ?_|refine wx2 ?_ ?_<;>intro hp|refine s_end hk ?_)<;>(clear hk a;intro a hk))|((first|refine wx3 ?_;intro w b|refine wx4 ?_;intro w|refine wx5 ?_;intro w v);clear hk hS a;intro hS a hk)|refine wx0 ?_|fail))
  refine wp_drawn 10 mixed (by kernel_rfl) hk hS ?_;clear hk hS a
  (repeat' (first|(show ObxE _ _ _ _ _ _ _ _ _ (_::_) _ _ _;first|refine ox1 ?_|refine ox2 ?_ ?_<;>intro hp)|fail))
  refine obe_nil ⟨rfl, ?_⟩;intro us a w hk hS
  (repeat' (first|((first|refine wx1 ?_|refine wx2 ?_ ?_<;>intro hp|refine s_end hk ?_)<;>(clear hk a;intro a hk))|((first|refine wx3 ?_;intro w b|refine wx4 ?_;intro w|refine wx5 ?_;intro w v);clear hk hS a;intro hS a hk)|refine wx0 ?_|fail))
  refine wp_drawn 9 mixed (by kernel_rfl) hk hS ?_;clear hk hS a
  (repeat' (first|(show ObxE _ _ _ _ _ _ _ _ _ (_::_) _ _ _;first|refine ox1 ?_|refine ox2 ?_ ?_<;>intro hp)|fail))
  refine obe_nil ⟨rfl, ?_⟩;intro us a w hk hS
  (repeat' (first|((first|refine wx1 ?_|refine wx2 ?_ ?_<;>intro hp|refine s_end hk ?_)<;>(clear hk a;intro a hk))|((first|refine wx3 ?_;intro w b|refine wx4 ?_;intro w|refine wx5 ?_;intro w v);clear hk hS a;intro hS a hk)|refine wx0 ?_|fail))
  refine done1 hk (h := ⟨?_, hS⟩)
  unfold nextB
  rw [dif_pos hj];rfl
 ·have hje : j = s.size := by omega
  (repeat' (first|((first|refine wx1 ?_|refine wx2 ?_ ?_<;>intro hp|refine s_end hk ?_)<;>(clear hk a;intro a hk))|((first|refine wx3 ?_;intro w b|refine wx4 ?_;intro w|refine wx5 ?_;intro w v);clear hk hS a;intro hS a hk)|refine wx0 ?_|fail))
  refine wp_drawn 10 mixed (by kernel_rfl) hk hS ?_;clear hk hS a
  (repeat' (first|(show ObxE _ _ _ _ _ _ _ _ _ (_::_) _ _ _;first|refine ox1 ?_|refine ox2 ?_ ?_<;>intro hp)|fail))
  refine obe_nil ⟨rfl, ?_⟩;intro us a w hk hS
  (repeat' (first|((first|refine wx1 ?_|refine wx2 ?_ ?_<;>intro hp|refine s_end hk ?_)<;>(clear hk a;intro a hk))|((first|refine wx3 ?_;intro w b|refine wx4 ?_;intro w|refine wx5 ?_;intro w v);clear hk hS a;intro hS a hk)|refine wx0 ?_|fail))
  refine done1 hk (h := ⟨?_, hS⟩)
  unfold nextB
  rw [dif_neg hj]
end
end Go.Proofs.YtnjmonkehjlaoaaGreatDoor
namespace Go.Proofs.YtnjmonkehjlaoaaGreatDoor
open Go.RowKit
set_option maxRecDepth 100000
attribute [local irreducible] Go.Code.wpIn Go.wpListIn Go.Calls Gives Go.Exit.then Go.Exit.inBlock Done ObxE
abbrev TabW (w : World) : Prop := Lib.TabIs Tryz.prog w "internal/strconv.uint64pow10" .u64 Lib.pow10Tab
theorem TabW.mono {w w' : World} (h : TabW w) (hb : Below w.heap.size w w') : TabW w' := Lib.tabBelow_of_tabIs h w' hb
def itoS (n : Int) : ByteArray := ⟨(Lib.itoa n).toArray⟩
theorem ito_list (n : Int) : (itoS n).data.toList = Lib.itoa n := by simp [itoS]
theorem itoa_any (n : Int) (h0 : -9223372036854775808 ≤ n) (h1 : n ≤ 9223372036854775807) (w0 : World) (ht : TabW w0) :
  Calls Tryz.prog 117 #[.int .i64 n] w0 (Ret fun v w => v = .string (itoS n) ∧ St w0 [] w) :=
 Calls.mono (Tryz.strconv_Itoa n h0 h1 w0 ht) (fun _ w' ⟨he, k, os, hw⟩ => ⟨_, he, rfl, by
  subst hw
  exact (St.refl w0).new (As := []) (Lib.below_grow _ w0 (Nat.le_refl _) k os) ⟨fun _ => False, fun _ h => h.elim, trivial⟩⟩)
theorem ito_iff {n : Int} {s : ByteArray} : itoS n = s ↔ Lib.itoa n = s.data.toList := by
 constructor
 ·intro h;rw [← h, ito_list]
 ·intro h
  unfold itoS
  rw [h]
theorem laid_tail {P : Program} {W : World} {x : String × DataW Unit} {rest : List (String × DataW Unit)} (h : laidMet P (x :: rest) W) : laidMet P rest W := by
 obtain ⟨ps, ⟨g, t, cs, fuel, p, q, h1, h2, h3, h4, hq, he⟩, hn, h6⟩ := h
 subst he
 exact ⟨q, hq, (List.nodup_append.1 hn).2.1, fun b off hm => h6 b off (List.mem_append_right _ hm)⟩
end Go.Proofs.YtnjmonkehjlaoaaGreatDoor
