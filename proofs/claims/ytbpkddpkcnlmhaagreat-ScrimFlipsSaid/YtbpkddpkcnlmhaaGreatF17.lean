/- Layer 17 (layout): what a node asks for. Layer 17 (layout): sizes. -/
import Derived.Test.YtbpkddpkcnlmhaaGreatF16
import Derived.Test.YtbpkddpkcnlmhaaGreatF14
set_option linter.all false
namespace Go.Proofs.YtbpkddpkcnlmhaaGreat
open Go.RowKit
set_option maxRecDepth 100000
attribute [local irreducible] Go.Code.wpIn Go.wpListIn Go.Calls Gives Go.Exit.then Go.Exit.inBlock Done ObxE
def STree.sty : STree → List (ByteArray × Int)
 | .mk _ _ _ _ _ _ st _ => st
abbrev wS : ByteArray := ⟨#[119]⟩
abbrev hS6 : ByteArray := ⟨#[104]⟩
abbrev padS : ByteArray := ⟨#[112, 97, 100]⟩
abbrev gapS : ByteArray := ⟨#[103, 97, 112]⟩
abbrev colsS : ByteArray := ⟨#[99, 111, 108, 115]⟩
abbrev flowS : ByteArray := ⟨#[102, 108, 111, 119]⟩
def stI (st : List (ByteArray × Int)) (k : ByteArray) : Int := max 0 (satF (getI st k))
def stB (st : List (ByteArray × Int)) (k : ByteArray) : Bool := (lastF nmI st k).isSome
def widF (st : List (ByteArray × Int)) (g : Int) : Int := if stB st wS then stI st wS else max 0 (satF g)
def insF6 (st : List (ByteArray × Int)) (g : Int) : Int := max 0 (subF (subF (widF st g) (stI st padS)) (stI st padS))
def wayF (st : List (ByteArray × Int)) : Int := if getI st flowS = 1 ∨ getI st flowS = 2 then getI st flowS else 0
def colF (st : List (ByteArray × Int)) (n : Int) : Int := max 0 (divF (subF n (mulF (colsF (stI st colsS) - 1) (stI st gapS))) (colsF (stI st colsS)))
mutual
def natF : STree → Int
 | .mk _ k _ text _ _ st kids => if k = 1 then satF text.size else if stB st wS then stI st wS else addF (natL kids) (addF (stI st padS) (stI st padS))
def natL : List STree → Int
 | [] => 0
 | t :: ts => max (natF t) (natL ts)
end
theorem natL_snoc (t : STree) : ∀ l : List STree, natL (l ++ [t]) = max (natL l) (natF t)
 | [] => by simp only [List.nil_append, natL];omega
 | u :: l => by simp only [List.cons_append, natL, natL_snoc t l];omega
theorem stI_pq (st : List (ByteArray × Int)) (k : ByteArray) : Pq (stI st k) := max0_pq _
theorem SFits.kid {t u : STree} (h : SFits t) (hu : u ∈ t.kids) : SFits u := by
 cases h with | mk _ _ _ _ h5 => exact h5 u hu
theorem style6_any (t : STree) (h : SnH) (key : ByteArray) (w0 : World) (hf : SFits t) (hr : SrR w0 t h) : Calls Tryz.prog 96 #[snV h, .string key] w0 (Ret fun v w => v = .tuple #[.int .i64 (stI t.sty key), .bool (stB t.sty key)] ∧ St w0 [] w) := by
 have hr0 := hr
 obtain ⟨id, k, tag, text, cl, al, sl, kids, a1, m1, a2, m2, a3, m3, a4, m4, H, rfl, rfl, c1, c2, c3, c4, hF⟩ := hr.split
 have hfl : sl.length ≤ 100 := by cases hf with | mk _ _ h3 _ _ => exact h3
 show Calls Tryz.prog 96 #[.agg #[.int .i64 id, .int .i64 k, .string tag, .string text, .slice a1 cl.length m1, .slice a2 al.length m2, .slice a3 sl.length m3, .slice a4 H.length m4], .string key] w0 _
 refine enter Tryz.func96 rfl Tryz.ntmps96 rfl (fun a hk => ?_);have hS := St.refl w0
 (repeat' (first|((first|refine wx1 ?_|refine wx2 ?_ ?_<;>intro hp|refine s_end hk ?_)<;>(clear hk a;intro a hk))|((first|refine wx3 ?_;intro w b|refine wx4 ?_;intro w|refine wx5 ?_;intro w v);clear hk hS a;intro hS a hk)|refine wx0 ?_|fail))
 refine sg hk (g_callO hk (hf := by kernel_rfl) (hc := getI_any sl key (.slice a3 sl.length m3) _ (hS.rdT c3) (by omega)) (h := ?_));clear hk a;rintro _ w ⟨rfl, hS1⟩ a hk;replace hS := hS.call0 hS1;clear hS1
 (repeat' (first|((first|refine wx1 ?_|refine wx2 ?_ ?_<;>intro hp|refine s_end hk ?_)<;>(clear hk a;intro a hk))|((first|refine wx3 ?_;intro w b|refine wx4 ?_;intro w|refine wx5 ?_;intro w v);clear hk hS a;intro hS a hk)|refine wx0 ?_|fail))
 refine sg hk (g_callO hk (hf := by kernel_rfl) (hc := sat_any _ _) (h := ?_));clear hk a;rintro _ w ⟨rfl, hS1⟩ a hk;replace hS := hS.call0 hS1;clear hS1
 (repeat' (first|((first|refine wx1 ?_|refine wx2 ?_ ?_<;>intro hp|refine s_end hk ?_)<;>(clear hk a;intro a hk))|((first|refine wx3 ?_;intro w b|refine wx4 ?_;intro w|refine wx5 ?_;intro w v);clear hk hS a;intro hS a hk)|refine wx0 ?_|fail))
 exact done2 hk (h := ⟨rfl, hS.nil⟩)
theorem ask6_any (t : STree) (h : SnH) (key : ByteArray) (w0 : World) (hf : SFits t) (hr : SrR w0 t h) : Calls Tryz.prog 78 #[snV h, .string key] w0 (Ret fun v w => v = .int .i64 (stI t.sty key) ∧ St w0 [] w) := by
 have hr0 := hr
 obtain ⟨id, k, tag, text, cl, al, sl, kids, a1, m1, a2, m2, a3, m3, a4, m4, H, rfl, rfl, c1, c2, c3, c4, hF⟩ := hr.split
 have hfl : sl.length ≤ 100 := by cases hf with | mk _ _ h3 _ _ => exact h3
 show Calls Tryz.prog 78 #[.agg #[.int .i64 id, .int .i64 k, .string tag, .string text, .slice a1 cl.length m1, .slice a2 al.length m2, .slice a3 sl.length m3, .slice a4 H.length m4], .string key] w0 _
 refine enter Tryz.func78 rfl Tryz.ntmps78 rfl (fun a hk => ?_);have hS := St.refl w0
 (repeat' (first|((first|refine wx1 ?_|refine wx2 ?_ ?_<;>intro hp|refine s_end hk ?_)<;>(clear hk a;intro a hk))|((first|refine wx3 ?_;intro w b|refine wx4 ?_;intro w|refine wx5 ?_;intro w v);clear hk hS a;intro hS a hk)|refine wx0 ?_|fail))
 refine sg hk (g_callO hk (hf := by kernel_rfl) (hc := style6_any _ (id, k, tag, text, ⟨a1, cl.length, m1⟩, ⟨a2, al.length, m2⟩, ⟨a3, sl.length, m3⟩, ⟨a4, H.length, m4⟩) key _ hf (hS.rdSr hr0)) (h := ?_));clear hk a;rintro _ w ⟨rfl, hS1⟩ a hk;replace hS := hS.call0 hS1;clear hS1
 (repeat' (first|((first|refine wx1 ?_|refine wx2 ?_ ?_<;>intro hp|refine s_end hk ?_)<;>(clear hk a;intro a hk))|((first|refine wx3 ?_;intro w b|refine wx4 ?_;intro w|refine wx5 ?_;intro w v);clear hk hS a;intro hS a hk)|refine wx0 ?_|fail))
 exact done1 hk (h := ⟨rfl, hS.nil⟩)
theorem twice6_any (x : Int) (w0 : World) : Calls Tryz.prog 97 #[.int .i64 x] w0 (Ret fun v w => v = .int .i64 (addF x x) ∧ St w0 [] w) := by
 refine enter Tryz.func97 rfl Tryz.ntmps97 rfl (fun a hk => ?_);have hS := St.refl w0
 (repeat' (first|((first|refine wx1 ?_|refine wx2 ?_ ?_<;>intro hp|refine s_end hk ?_)<;>(clear hk a;intro a hk))|((first|refine wx3 ?_;intro w b|refine wx4 ?_;intro w|refine wx5 ?_;intro w v);clear hk hS a;intro hS a hk)|refine wx0 ?_|fail))
 refine sg hk (g_callO hk (hf := by kernel_rfl) (hc := add_any x x _) (h := ?_));clear hk a;rintro _ w ⟨rfl, hS1⟩ a hk;replace hS := hS.call0 hS1;clear hS1
 (repeat' (first|((first|refine wx1 ?_|refine wx2 ?_ ?_<;>intro hp|refine s_end hk ?_)<;>(clear hk a;intro a hk))|((first|refine wx3 ?_;intro w b|refine wx4 ?_;intro w|refine wx5 ?_;intro w v);clear hk hS a;intro hS a hk)|refine wx0 ?_|fail))
 exact done1 hk (h := ⟨rfl, hS.nil⟩)
theorem width6_any (t : STree) (h : SnH) (g : Int) (w0 : World) (hf : SFits t) (hr : SrR w0 t h) : Calls Tryz.prog 98 #[snV h, .int .i64 g] w0 (Ret fun v w => v = .int .i64 (widF t.sty g) ∧ St w0 [] w) := by
 have hr0 := hr
 obtain ⟨id, k, tag, text, cl, al, sl, kids, a1, m1, a2, m2, a3, m3, a4, m4, H, rfl, rfl, c1, c2, c3, c4, hF⟩ := hr.split
 have hfl : sl.length ≤ 100 := by cases hf with | mk _ _ h3 _ _ => exact h3
 show Calls Tryz.prog 98 #[.agg #[.int .i64 id, .int .i64 k, .string tag, .string text, .slice a1 cl.length m1, .slice a2 al.length m2, .slice a3 sl.length m3, .slice a4 H.length m4], .int .i64 g] w0 (Ret fun v w => v = .int .i64 (widF sl g) ∧ St w0 [] w)
 cases hb : stB sl wS
 ·rw [show widF sl g = max 0 (satF g) by unfold widF;rw [hb];rfl]
  refine enter Tryz.func98 rfl Tryz.ntmps98 rfl (fun a hk => ?_);have hS := St.refl w0
  (repeat' (first|((first|refine wx1 ?_|refine wx2 ?_ ?_<;>intro hp|refine s_end hk ?_)<;>(clear hk a;intro a hk))|((first|refine wx3 ?_;intro w b|refine wx4 ?_;intro w|refine wx5 ?_;intro w v);clear hk hS a;intro hS a hk)|refine wx0 ?_|fail))
  refine sg hk (g_callO hk (hf := by kernel_rfl) (hc := style6_any _ (id, k, tag, text, ⟨a1, cl.length, m1⟩, ⟨a2, al.length, m2⟩, ⟨a3, sl.length, m3⟩, ⟨a4, H.length, m4⟩) wS _ hf (hS.rdSr hr0)) (h := ?_));clear hk a;rintro _ w ⟨rfl, hS1⟩ a hk;replace hS := hS.call0 hS1;clear hS1
  simp only [STree.sty] at hk
  rw [hb] at hk
  (repeat' (first|((first|refine wx1 ?_|refine wx2 ?_ ?_<;>intro hp|refine s_end hk ?_)<;>(clear hk a;intro a hk))|((first|refine wx3 ?_;intro w b|refine wx4 ?_;intro w|refine wx5 ?_;intro w v);clear hk hS a;intro hS a hk)|refine wx0 ?_|fail))
  refine sg hk (g_callO hk (hf := by kernel_rfl) (hc := sat_any _ _) (h := ?_));clear hk a;rintro _ w ⟨rfl, hS1⟩ a hk;replace hS := hS.call0 hS1;clear hS1
  (repeat' (first|((first|refine wx1 ?_|refine wx2 ?_ ?_<;>intro hp|refine s_end hk ?_)<;>(clear hk a;intro a hk))|((first|refine wx3 ?_;intro w b|refine wx4 ?_;intro w|refine wx5 ?_;intro w v);clear hk hS a;intro hS a hk)|refine wx0 ?_|fail))
  exact done1 hk (h := ⟨rfl, hS.nil⟩)
 ·rw [show widF sl g = stI sl wS by unfold widF;rw [hb];rfl]
  refine enter Tryz.func98 rfl Tryz.ntmps98 rfl (fun a hk => ?_);have hS := St.refl w0
  (repeat' (first|((first|refine wx1 ?_|refine wx2 ?_ ?_<;>intro hp|refine s_end hk ?_)<;>(clear hk a;intro a hk))|((first|refine wx3 ?_;intro w b|refine wx4 ?_;intro w|refine wx5 ?_;intro w v);clear hk hS a;intro hS a hk)|refine wx0 ?_|fail))
  refine sg hk (g_callO hk (hf := by kernel_rfl) (hc := style6_any _ (id, k, tag, text, ⟨a1, cl.length, m1⟩, ⟨a2, al.length, m2⟩, ⟨a3, sl.length, m3⟩, ⟨a4, H.length, m4⟩) wS _ hf (hS.rdSr hr0)) (h := ?_));clear hk a;rintro _ w ⟨rfl, hS1⟩ a hk;replace hS := hS.call0 hS1;clear hS1
  simp only [STree.sty] at hk
  rw [hb] at hk
  (repeat' (first|((first|refine wx1 ?_|refine wx2 ?_ ?_<;>intro hp|refine s_end hk ?_)<;>(clear hk a;intro a hk))|((first|refine wx3 ?_;intro w b|refine wx4 ?_;intro w|refine wx5 ?_;intro w v);clear hk hS a;intro hS a hk)|refine wx0 ?_|fail))
  exact done1 hk (h := ⟨rfl, hS.nil⟩)
theorem inside6_any (t : STree) (h : SnH) (g : Int) (w0 : World) (hf : SFits t) (hr : SrR w0 t h) : Calls Tryz.prog 77 #[snV h, .int .i64 g] w0 (Ret fun v w => v = .int .i64 (insF6 t.sty g) ∧ St w0 [] w) := by
 have hr0 := hr
 obtain ⟨id, k, tag, text, cl, al, sl, kids, a1, m1, a2, m2, a3, m3, a4, m4, H, rfl, rfl, c1, c2, c3, c4, hF⟩ := hr.split
 have hfl : sl.length ≤ 100 := by cases hf with | mk _ _ h3 _ _ => exact h3
 show Calls Tryz.prog 77 #[.agg #[.int .i64 id, .int .i64 k, .string tag, .string text, .slice a1 cl.length m1, .slice a2 al.length m2, .slice a3 sl.length m3, .slice a4 H.length m4], .int .i64 g] w0 _
 refine enter Tryz.func77 rfl Tryz.ntmps77 rfl (fun a hk => ?_);have hS := St.refl w0
 (repeat' (first|((first|refine wx1 ?_|refine wx2 ?_ ?_<;>intro hp|refine s_end hk ?_)<;>(clear hk a;intro a hk))|((first|refine wx3 ?_;intro w b|refine wx4 ?_;intro w|refine wx5 ?_;intro w v);clear hk hS a;intro hS a hk)|refine wx0 ?_|fail))
 refine sg hk (g_callO hk (hf := by kernel_rfl) (hc := ask6_any _ (id, k, tag, text, ⟨a1, cl.length, m1⟩, ⟨a2, al.length, m2⟩, ⟨a3, sl.length, m3⟩, ⟨a4, H.length, m4⟩) padS _ hf (hS.rdSr hr0)) (h := ?_));clear hk a;rintro _ w ⟨rfl, hS1⟩ a hk;replace hS := hS.call0 hS1;clear hS1
 (repeat' (first|((first|refine wx1 ?_|refine wx2 ?_ ?_<;>intro hp|refine s_end hk ?_)<;>(clear hk a;intro a hk))|((first|refine wx3 ?_;intro w b|refine wx4 ?_;intro w|refine wx5 ?_;intro w v);clear hk hS a;intro hS a hk)|refine wx0 ?_|fail))
 refine sg hk (g_callO hk (hf := by kernel_rfl) (hc := width6_any _ (id, k, tag, text, ⟨a1, cl.length, m1⟩, ⟨a2, al.length, m2⟩, ⟨a3, sl.length, m3⟩, ⟨a4, H.length, m4⟩) g _ hf (hS.rdSr hr0)) (h := ?_));clear hk a;rintro _ w ⟨rfl, hS1⟩ a hk;replace hS := hS.call0 hS1;clear hS1
 (repeat' (first|((first|refine wx1 ?_|refine wx2 ?_ ?_<;>intro hp|refine s_end hk ?_)<;>(clear hk a;intro a hk))|((first|refine wx3 ?_;intro w b|refine wx4 ?_;intro w|refine wx5 ?_;intro w v);clear hk hS a;intro hS a hk)|refine wx0 ?_|fail))
 refine sg hk (g_callO hk (hf := by kernel_rfl) (hc := sub_any _ _ _) (h := ?_));clear hk a;rintro _ w ⟨rfl, hS1⟩ a hk;replace hS := hS.call0 hS1;clear hS1
 (repeat' (first|((first|refine wx1 ?_|refine wx2 ?_ ?_<;>intro hp|refine s_end hk ?_)<;>(clear hk a;intro a hk))|((first|refine wx3 ?_;intro w b|refine wx4 ?_;intro w|refine wx5 ?_;intro w v);clear hk hS a;intro hS a hk)|refine wx0 ?_|fail))
 refine sg hk (g_callO hk (hf := by kernel_rfl) (hc := sub_any _ _ _) (h := ?_));clear hk a;rintro _ w ⟨rfl, hS1⟩ a hk;replace hS := hS.call0 hS1;clear hS1
 (repeat' (first|((first|refine wx1 ?_|refine wx2 ?_ ?_<;>intro hp|refine s_end hk ?_)<;>(clear hk a;intro a hk))|((first|refine wx3 ?_;intro w b|refine wx4 ?_;intro w|refine wx5 ?_;intro w v);clear hk hS a;intro hS a hk)|refine wx0 ?_|fail))
 exact done1 hk (h := ⟨rfl, hS.nil⟩)
theorem way6_any (t : STree) (h : SnH) (w0 : World) (hf : SFits t) (hr : SrR w0 t h) : Calls Tryz.prog 99 #[snV h] w0 (Ret fun v w => v = .int .i64 (wayF t.sty) ∧ St w0 [] w) := by
 have hr0 := hr
 obtain ⟨id, k, tag, text, cl, al, sl, kids, a1, m1, a2, m2, a3, m3, a4, m4, H, rfl, rfl, c1, c2, c3, c4, hF⟩ := hr.split
 have hfl : sl.length ≤ 100 := by cases hf with | mk _ _ h3 _ _ => exact h3
 show Calls Tryz.prog 99 #[.agg #[.int .i64 id, .int .i64 k, .string tag, .string text, .slice a1 cl.length m1, .slice a2 al.length m2, .slice a3 sl.length m3, .slice a4 H.length m4]] w0 (Ret fun v w => v = .int .i64 (wayF sl) ∧ St w0 [] w)
 by_cases h1 : getI sl flowS = 1
 ·rw [show wayF sl = getI sl flowS from if_pos (.inl h1)]
  refine enter Tryz.func99 rfl Tryz.ntmps99 rfl (fun a hk => ?_);have hS := St.refl w0
  (repeat' (first|((first|refine wx1 ?_|refine wx2 ?_ ?_<;>intro hp|refine s_end hk ?_)<;>(clear hk a;intro a hk))|((first|refine wx3 ?_;intro w b|refine wx4 ?_;intro w|refine wx5 ?_;intro w v);clear hk hS a;intro hS a hk)|refine wx0 ?_|fail))
  refine sg hk (g_callO hk (hf := by kernel_rfl) (hc := getI_any sl flowS (.slice a3 sl.length m3) _ (hS.rdT c3) (by omega)) (h := ?_));clear hk a;rintro _ w ⟨rfl, hS1⟩ a hk;replace hS := hS.call0 hS1;clear hS1
  (repeat' (first|((first|refine wx1 ?_|refine wx2 ?_ ?_<;>intro hp|refine s_end hk ?_)<;>(clear hk a;intro a hk))|((first|refine wx3 ?_;intro w b|refine wx4 ?_;intro w|refine wx5 ?_;intro w v);clear hk hS a;intro hS a hk)|refine wx0 ?_|fail))
  exact done1 hk (h := ⟨rfl, hS.nil⟩)
 ·by_cases h2 : getI sl flowS = 2
  ·rw [show wayF sl = getI sl flowS from if_pos (.inr h2)]
   refine enter Tryz.func99 rfl Tryz.ntmps99 rfl (fun a hk => ?_);have hS := St.refl w0
   (repeat' (first|((first|refine wx1 ?_|refine wx2 ?_ ?_<;>intro hp|refine s_end hk ?_)<;>(clear hk a;intro a hk))|((first|refine wx3 ?_;intro w b|refine wx4 ?_;intro w|refine wx5 ?_;intro w v);clear hk hS a;intro hS a hk)|refine wx0 ?_|fail))
   refine sg hk (g_callO hk (hf := by kernel_rfl) (hc := getI_any sl flowS (.slice a3 sl.length m3) _ (hS.rdT c3) (by omega)) (h := ?_));clear hk a;rintro _ w ⟨rfl, hS1⟩ a hk;replace hS := hS.call0 hS1;clear hS1
   (repeat' (first|((first|refine wx1 ?_|refine wx2 ?_ ?_<;>intro hp|refine s_end hk ?_)<;>(clear hk a;intro a hk))|((first|refine wx3 ?_;intro w b|refine wx4 ?_;intro w|refine wx5 ?_;intro w v);clear hk hS a;intro hS a hk)|refine wx0 ?_|fail))
   exact done1 hk (h := ⟨rfl, hS.nil⟩)
  ·rw [show wayF sl = 0 from if_neg (fun h => h.elim h1 h2)]
   refine enter Tryz.func99 rfl Tryz.ntmps99 rfl (fun a hk => ?_);have hS := St.refl w0
   (repeat' (first|((first|refine wx1 ?_|refine wx2 ?_ ?_<;>intro hp|refine s_end hk ?_)<;>(clear hk a;intro a hk))|((first|refine wx3 ?_;intro w b|refine wx4 ?_;intro w|refine wx5 ?_;intro w v);clear hk hS a;intro hS a hk)|refine wx0 ?_|fail))
   refine sg hk (g_callO hk (hf := by kernel_rfl) (hc := getI_any sl flowS (.slice a3 sl.length m3) _ (hS.rdT c3) (by omega)) (h := ?_));clear hk a;rintro _ w ⟨rfl, hS1⟩ a hk;replace hS := hS.call0 hS1;clear hS1
   (repeat' (first|((first|refine wx1 ?_|refine wx2 ?_ ?_<;>intro hp|refine s_end hk ?_)<;>(clear hk a;intro a hk))|((first|refine wx3 ?_;intro w b|refine wx4 ?_;intro w|refine wx5 ?_;intro w v);clear hk hS a;intro hS a hk)|refine wx0 ?_|fail))
   exact done1 hk (h := ⟨rfl, hS.nil⟩)
theorem column6_any (t : STree) (h : SnH) (n : Int) (w0 : World) (hf : SFits t) (hr : SrR w0 t h) : Calls Tryz.prog 101 #[snV h, .int .i64 n] w0 (Ret fun v w => v = .tuple #[.int .i64 (colsF (stI t.sty colsS)), .int .i64 (colF t.sty n)] ∧ St w0 [] w) := by
 have hr0 := hr
 obtain ⟨id, k, tag, text, cl, al, sl, kids, a1, m1, a2, m2, a3, m3, a4, m4, H, rfl, rfl, c1, c2, c3, c4, hF⟩ := hr.split
 have hfl : sl.length ≤ 100 := by cases hf with | mk _ _ h3 _ _ => exact h3
 show Calls Tryz.prog 101 #[.agg #[.int .i64 id, .int .i64 k, .string tag, .string text, .slice a1 cl.length m1, .slice a2 al.length m2, .slice a3 sl.length m3, .slice a4 H.length m4], .int .i64 n] w0 _
 have hc : 1 ≤ colsF (stI sl colsS) ∧ colsF (stI sl colsS) ≤ 64 := by unfold colsF;omega
 refine enter Tryz.func101 rfl Tryz.ntmps101 rfl (fun a hk => ?_);have hS := St.refl w0
 (repeat' (first|((first|refine wx1 ?_|refine wx2 ?_ ?_<;>intro hp|refine s_end hk ?_)<;>(clear hk a;intro a hk))|((first|refine wx3 ?_;intro w b|refine wx4 ?_;intro w|refine wx5 ?_;intro w v);clear hk hS a;intro hS a hk)|refine wx0 ?_|fail))
 refine sg hk (g_callO hk (hf := by kernel_rfl) (hc := ask6_any _ (id, k, tag, text, ⟨a1, cl.length, m1⟩, ⟨a2, al.length, m2⟩, ⟨a3, sl.length, m3⟩, ⟨a4, H.length, m4⟩) colsS _ hf (hS.rdSr hr0)) (h := ?_));clear hk a;rintro _ w ⟨rfl, hS1⟩ a hk;replace hS := hS.call0 hS1;clear hS1
 (repeat' (first|((first|refine wx1 ?_|refine wx2 ?_ ?_<;>intro hp|refine s_end hk ?_)<;>(clear hk a;intro a hk))|((first|refine wx3 ?_;intro w b|refine wx4 ?_;intro w|refine wx5 ?_;intro w v);clear hk hS a;intro hS a hk)|refine wx0 ?_|fail))
 refine sg hk (g_callO hk (hf := by kernel_rfl) (hc := clip5_any _ 1 64 _) (h := ?_));clear hk a;rintro _ w ⟨rfl, hS1⟩ a hk;replace hS := hS.call0 hS1;clear hS1
 rw [show max 1 (min (stI (STree.mk id k tag text cl al sl kids).sty colsS) 64) = colsF (stI sl colsS) from rfl] at hk
 (repeat' (first|((first|refine wx1 ?_|refine wx2 ?_ ?_<;>intro hp|refine s_end hk ?_)<;>(clear hk a;intro a hk))|((first|refine wx3 ?_;intro w b|refine wx4 ?_;intro w|refine wx5 ?_;intro w v);clear hk hS a;intro hS a hk)|refine wx0 ?_|fail))
 refine sg hk (g_callO hk (hf := by kernel_rfl) (hc := ask6_any _ (id, k, tag, text, ⟨a1, cl.length, m1⟩, ⟨a2, al.length, m2⟩, ⟨a3, sl.length, m3⟩, ⟨a4, H.length, m4⟩) gapS _ hf (hS.rdSr hr0)) (h := ?_));clear hk a;rintro _ w ⟨rfl, hS1⟩ a hk;replace hS := hS.call0 hS1;clear hS1
 (repeat' (first|((first|refine wx1 ?_|refine wx2 ?_ ?_<;>intro hp|refine s_end hk ?_)<;>(clear hk a;intro a hk))|((first|refine wx3 ?_;intro w b|refine wx4 ?_;intro w|refine wx5 ?_;intro w v);clear hk hS a;intro hS a hk)|refine wx0 ?_|fail))
 refine sg hk (g_callO hk (hf := by kernel_rfl) (hc := mul_any _ _ _) (h := ?_));clear hk a;rintro _ w ⟨rfl, hS1⟩ a hk;replace hS := hS.call0 hS1;clear hS1
 (repeat' (first|((first|refine wx1 ?_|refine wx2 ?_ ?_<;>intro hp|refine s_end hk ?_)<;>(clear hk a;intro a hk))|((first|refine wx3 ?_;intro w b|refine wx4 ?_;intro w|refine wx5 ?_;intro w v);clear hk hS a;intro hS a hk)|refine wx0 ?_|fail))
 refine sg hk (g_callO hk (hf := by kernel_rfl) (hc := sub_any _ _ _) (h := ?_));clear hk a;rintro _ w ⟨rfl, hS1⟩ a hk;replace hS := hS.call0 hS1;clear hS1
 (repeat' (first|((first|refine wx1 ?_|refine wx2 ?_ ?_<;>intro hp|refine s_end hk ?_)<;>(clear hk a;intro a hk))|((first|refine wx3 ?_;intro w b|refine wx4 ?_;intro w|refine wx5 ?_;intro w v);clear hk hS a;intro hS a hk)|refine wx0 ?_|fail))
 refine sg hk (g_callO hk (hf := by kernel_rfl) (hc := div_any _ _ _) (h := ?_));clear hk a;rintro _ w ⟨rfl, hS1⟩ a hk;replace hS := hS.call0 hS1;clear hS1
 (repeat' (first|((first|refine wx1 ?_|refine wx2 ?_ ?_<;>intro hp|refine s_end hk ?_)<;>(clear hk a;intro a hk))|((first|refine wx3 ?_;intro w b|refine wx4 ?_;intro w|refine wx5 ?_;intro w v);clear hk hS a;intro hS a hk)|refine wx0 ?_|fail))
 exact done2 hk (h := ⟨rfl, hS.nil⟩)
set_option maxHeartbeats 4000000 in
theorem nat6_any : ∀ (n : Nat) (t : STree) (h : SnH) (w0 : World), SizeOf.sizeOf t < n → SFits t → SrR w0 t h → Calls Tryz.prog 95 #[snV h] w0 (Ret fun v w => v = .int .i64 (natF t) ∧ St w0 [] w)
 | 0, _, _, _, hn, _, _ => by omega
 | n + 1, t, h, w0, hn, hf, hr => by
  have ih := nat6_any n
  have hfk : ∀ u ∈ t.kids, SFits u := fun u hu => hf.kid hu
  have hr0 := hr
  obtain ⟨id, k, tag, text, cl, al, sl, kids, a1, m1, a2, m2, a3, m3, a4, m4, H, rfl, rfl, c1, c2, c3, c4, hF⟩ := hr.split
  have hHk : H.length = kids.length := hF.1
  have hkl : kids.length ≤ 1000 := by cases hf with | mk _ _ _ h4 _ => exact h4
  have hfk : ∀ u ∈ kids, SFits u := hfk
  show Calls Tryz.prog 95 #[.agg #[.int .i64 id, .int .i64 k, .string tag, .string text, .slice a1 cl.length m1, .slice a2 al.length m2, .slice a3 sl.length m3, .slice a4 H.length m4]] w0 _
  by_cases hk1 : k = 1
  ·subst hk1
   rw [show natF (.mk id 1 tag text cl al sl kids) = satF text.size by simp only [natF, if_true]]
   refine enter Tryz.func95 rfl Tryz.ntmps95 rfl (fun a hk => ?_);have hS := St.refl w0
   (repeat' (first|((first|refine wx1 ?_|refine wx2 ?_ ?_<;>intro hp|refine s_end hk ?_)<;>(clear hk a;intro a hk))|((first|refine wx3 ?_;intro w b|refine wx4 ?_;intro w|refine wx5 ?_;intro w v);clear hk hS a;intro hS a hk)|refine wx0 ?_|fail))
   refine sg hk (g_callO hk (hf := by kernel_rfl) (hc := sat_any _ _) (h := ?_));clear hk a;rintro _ w ⟨rfl, hS1⟩ a hk;replace hS := hS.call0 hS1;clear hS1
   (repeat' (first|((first|refine wx1 ?_|refine wx2 ?_ ?_<;>intro hp|refine s_end hk ?_)<;>(clear hk a;intro a hk))|((first|refine wx3 ?_;intro w b|refine wx4 ?_;intro w|refine wx5 ?_;intro w v);clear hk hS a;intro hS a hk)|refine wx0 ?_|fail))
   exact done1 hk (h := ⟨rfl, hS.nil⟩)
  ·cases hb : stB sl wS
   ·rw [show natF (.mk id k tag text cl al sl kids) = addF (natL kids) (addF (stI sl padS) (stI sl padS)) by simp only [natF, if_neg hk1, hb];rfl]
    refine enter Tryz.func95 rfl Tryz.ntmps95 rfl (fun a hk => ?_);have hS := St.refl w0
    (repeat' (first|((first|refine wx1 ?_|refine wx2 ?_ ?_<;>intro hp|refine s_end hk ?_)<;>(clear hk a;intro a hk))|((first|refine wx3 ?_;intro w b|refine wx4 ?_;intro w|refine wx5 ?_;intro w v);clear hk hS a;intro hS a hk)|refine wx0 ?_|fail))
    refine sg hk (g_callO hk (hf := by kernel_rfl) (hc := style6_any _ (id, k, tag, text, ⟨a1, cl.length, m1⟩, ⟨a2, al.length, m2⟩, ⟨a3, sl.length, m3⟩, ⟨a4, H.length, m4⟩) wS _ hf (hS.rdSr hr0)) (h := ?_));clear hk a;rintro _ w ⟨rfl, hS1⟩ a hk;replace hS := hS.call0 hS1;clear hS1
    simp only [STree.sty] at hk
    rw [hb] at hk
    (repeat' (first|((first|refine wx1 ?_|refine wx2 ?_ ?_<;>intro hp|refine s_end hk ?_)<;>(clear hk a;intro a hk))|((first|refine wx3 ?_;intro w b|refine wx4 ?_;intro w|refine wx5 ?_;intro w v);clear hk hS a;intro hS a hk)|refine wx0 ?_|fail))
    rename Nat => b1
    replace hk := Kn.kp [1, 5, 23, 24, 25] hk
    refine wp_for H.length (fun i _ => [(5, .int .i64 (natL (kids.take i))), (25, .int .i64 (i : Int))]) (fun _ _ => [pts b1 [.int .i64 id, .int .i64 k, .string tag, .string text, .slice a1 cl.length m1, .slice a2 al.length m2, .slice a3 sl.length m3, .slice a4 H.length m4] 77]) (fun _ _ => True) () hk skx hS.sb trivial ?_
    clear hk hS a
    rintro i - a w hi hk hS -
    by_cases hil : i < H.length
    ·obtain ⟨tk, htk⟩ : ∃ t, kids[i]? = some t := ⟨_, List.getElem?_eq_getElem (by omega)⟩
     obtain ⟨hd0, hx⟩ : ∃ x, H[i]? = some x := ⟨_, List.getElem?_eq_getElem hil⟩
     have hTr := hF.2 i tk hd0 htk hx
     have hpk := hfk tk (List.mem_of_getElem? htk)
     have hlt : SizeOf.sizeOf tk < n := by have := skid_lt (id := id) (k := k) (tag := tag) (text := text) (cl := cl) (at_ := al) (st := sl) (List.mem_of_getElem? htk);omega
     have hst : natL (kids.take (i + 1)) = max (natL (kids.take i)) (natF tk) := by rw [take_snoc htk, natL_snoc]
     obtain ⟨id0, k0, tag0, text0, ⟨x1, x2, x3⟩, ⟨y1, y2, y3⟩, ⟨z1, z2, z3⟩, ⟨u1, u2, u3⟩⟩ := hd0
     have hv1 := hS.rdT c4
     (repeat' (first|((first|refine wx1 ?_|refine wx2 ?_ ?_<;>intro hp|refine s_end hk ?_)<;>(clear hk a;intro a hk))|((first|refine wx3 ?_;intro w b|refine wx4 ?_;intro w|refine wx5 ?_;intro w v);clear hk hS a;intro hS a hk)|refine wx0 ?_|fail))
     refine sg hk (g_callO hk (hf := by kernel_rfl) (hc := ih tk (id0, k0, tag0, text0, ⟨x1, x2, x3⟩, ⟨y1, y2, y3⟩, ⟨z1, z2, z3⟩, ⟨u1, u2, u3⟩) _ hlt hpk (hS.rdSr hTr)) (h := ?_));clear hk a;rintro _ w ⟨rfl, hS1⟩ a hk;replace hS := hS.call0 hS1;clear hS1
     (repeat' (first|((first|refine wx1 ?_|refine wx2 ?_ ?_<;>intro hp|refine s_end hk ?_)<;>(clear hk a;intro a hk))|((first|refine wx3 ?_;intro w b|refine wx4 ?_;intro w|refine wx5 ?_;intro w v);clear hk hS a;intro hS a hk)|refine wx0 ?_|fail))
     rw [← hst] at hk
     exact ⟨hil, (), hk.sd, hS.sb, trivial⟩
    ·have hii : i = H.length := by omega
     subst hii
     rw [hHk, List.take_length] at hk
     (repeat' (first|((first|refine wx1 ?_|refine wx2 ?_ ?_<;>intro hp|refine s_end hk ?_)<;>(clear hk a;intro a hk))|((first|refine wx3 ?_;intro w b|refine wx4 ?_;intro w|refine wx5 ?_;intro w v);clear hk hS a;intro hS a hk)|refine wx0 ?_|fail))
     refine sg hk (g_callO hk (hf := by kernel_rfl) (hc := ask6_any _ (id, k, tag, text, ⟨a1, cl.length, m1⟩, ⟨a2, al.length, m2⟩, ⟨a3, sl.length, m3⟩, ⟨a4, H.length, m4⟩) padS _ hf (hS.rdSr hr0)) (h := ?_));clear hk a;rintro _ w ⟨rfl, hS1⟩ a hk;replace hS := hS.call0 hS1;clear hS1
     (repeat' (first|((first|refine wx1 ?_|refine wx2 ?_ ?_<;>intro hp|refine s_end hk ?_)<;>(clear hk a;intro a hk))|((first|refine wx3 ?_;intro w b|refine wx4 ?_;intro w|refine wx5 ?_;intro w v);clear hk hS a;intro hS a hk)|refine wx0 ?_|fail))
     refine sg hk (g_callO hk (hf := by kernel_rfl) (hc := twice6_any _ _) (h := ?_));clear hk a;rintro _ w ⟨rfl, hS1⟩ a hk;replace hS := hS.call0 hS1;clear hS1
     (repeat' (first|((first|refine wx1 ?_|refine wx2 ?_ ?_<;>intro hp|refine s_end hk ?_)<;>(clear hk a;intro a hk))|((first|refine wx3 ?_;intro w b|refine wx4 ?_;intro w|refine wx5 ?_;intro w v);clear hk hS a;intro hS a hk)|refine wx0 ?_|fail))
     refine sg hk (g_callO hk (hf := by kernel_rfl) (hc := add_any _ _ _) (h := ?_));clear hk a;rintro _ w ⟨rfl, hS1⟩ a hk;replace hS := hS.call0 hS1;clear hS1
     (repeat' (first|((first|refine wx1 ?_|refine wx2 ?_ ?_<;>intro hp|refine s_end hk ?_)<;>(clear hk a;intro a hk))|((first|refine wx3 ?_;intro w b|refine wx4 ?_;intro w|refine wx5 ?_;intro w v);clear hk hS a;intro hS a hk)|refine wx0 ?_|fail))
     exact done1 hk (h := ⟨rfl, hS.nil⟩)
   ·rw [show natF (.mk id k tag text cl al sl kids) = stI sl wS by simp only [natF, if_neg hk1, hb];rfl]
    refine enter Tryz.func95 rfl Tryz.ntmps95 rfl (fun a hk => ?_);have hS := St.refl w0
    (repeat' (first|((first|refine wx1 ?_|refine wx2 ?_ ?_<;>intro hp|refine s_end hk ?_)<;>(clear hk a;intro a hk))|((first|refine wx3 ?_;intro w b|refine wx4 ?_;intro w|refine wx5 ?_;intro w v);clear hk hS a;intro hS a hk)|refine wx0 ?_|fail))
    refine sg hk (g_callO hk (hf := by kernel_rfl) (hc := style6_any _ (id, k, tag, text, ⟨a1, cl.length, m1⟩, ⟨a2, al.length, m2⟩, ⟨a3, sl.length, m3⟩, ⟨a4, H.length, m4⟩) wS _ hf (hS.rdSr hr0)) (h := ?_));clear hk a;rintro _ w ⟨rfl, hS1⟩ a hk;replace hS := hS.call0 hS1;clear hS1
    simp only [STree.sty] at hk
    rw [hb] at hk
    (repeat' (first|((first|refine wx1 ?_|refine wx2 ?_ ?_<;>intro hp|refine s_end hk ?_)<;>(clear hk a;intro a hk))|((first|refine wx3 ?_;intro w b|refine wx4 ?_;intro w|refine wx5 ?_;intro w v);clear hk hS a;intro hS a hk)|refine wx0 ?_|fail))
    exact done1 hk (h := ⟨rfl, hS.nil⟩)
end Go.Proofs.YtbpkddpkcnlmhaaGreat
namespace Go.Proofs.YtbpkddpkcnlmhaaGreat
open Go.RowKit
def tupA (i : Nat) (v : Value) : Value := match v with | .tuple vs => vs.getD i undef | _ => undef
section
variable {df : List Deferred} {P : Program} {n : Nat} {l : List (Nat × Value)} {w0 : Bs} {L : List HP}
variable {os : List Oper} {i : Nat} {o : Oper} {r : List Oper} {acc : List (Nat × Nat × HV)} {HR : List (Nat × ((Nat → Value) → Value → HP))} {FinE : List (Nat × Nat × HV) → List (Nat × ((Nat → Value) → Value → HP)) → List HP → Prop} {TK : List HP}
theorem obe_via (t k : Nat) (f : Value → Value) {d : Nat} {h' : HV} (h : ∀ (us : Nat → Value) (a : Act) (w : World), Kn df n a (vwE acc l us (o.looksAt os.toArray)) → depE2 acc us w (o.looksAt os.toArray) → St w0 L w → Gives P o a w (fun v w' => v = f (us k) ∧ St w [] w'))
  (hr : ObxE df P n os l w0 L FinE (i + 1) r (pushE o.dst i (.fn [k] (fun l => f (l.getD 0 undef))) acc) HR TK) (ht : (o.looksAt os.toArray).contains t = true := by rfl) (hl : lkE acc t = some (d, h') := by rfl) (hs : k ∈ h'.srcs := by simp [HV.srcs])
  (hg : ∀ us, gdK os.toArray (vwE acc l us (o.looksAt os.toArray)) o.guard = some true := by intro us;rfl) : ObxE df P n os l w0 L FinE i (o :: r) acc HR TK :=
 ⟨.fn [k] (fun l => f (l.getD 0 undef)), ⟨⟨fun k' e => by simp only [HV.srcs, List.mem_singleton] at e;subst e;exact ⟨t, _, h', by simpa using ht, hl, .inr hs⟩, fun k T A V e => (by cases e)⟩, fun us a w X hk hd hS hX hd2 => .inr ⟨hg us, h us a w hk hd2 (hS.sub0 hX)⟩⟩, by simpa [HV.pre, pushR] using hr⟩
end
set_option maxRecDepth 100000
attribute [local irreducible] Go.Code.wpIn Go.wpListIn Go.Calls Gives Go.Exit.then Go.Exit.inBlock Done ObxE
def givF (st : List (ByteArray × Int)) (kid : STree) (n : Int) : Int := if wayF st = 1 then natF kid else if wayF st = 2 then colF st n else n
def flwF (st : List (ByteArray × Int)) (n : Int) (l : List (Int × Int)) : List (Int × Int) × Pen :=
 if wayF st = 1 then wrapF n (stI st gapS) l else if wayF st = 2 then gridF (colsF (stI st colsS)) (colF st n) (stI st gapS) l else stackF (stI st gapS) l
mutual
def sizF : STree → Int → Int × Int
 | .mk _ k _ text _ _ st kids, g => if k = 1 then (satF text.size, 1) else (widF st g, if stB st hS6 then stI st hS6 else addF (penAll (flwF st (insF6 st g) (sizL st (insF6 st g) kids)).2).2 (addF (stI st padS) (stI st padS)))
def sizL (st : List (ByteArray × Int)) (n : Int) : List STree → List (Int × Int)
 | [] => []
 | t :: ts => sizF t (givF st t n) :: sizL st n ts
end
theorem sizL_snoc (st : List (ByteArray × Int)) (n : Int) (t : STree) : ∀ l : List STree, sizL st n (l ++ [t]) = sizL st n l ++ [sizF t (givF st t n)]
 | [] => by simp only [List.nil_append, sizL]
 | u :: l => by simp only [List.cons_append, sizL, sizL_snoc st n t l]
theorem sizL_len (st : List (ByteArray × Int)) (n : Int) : ∀ l : List STree, (sizL st n l).length = l.length
 | [] => by simp only [sizL, List.length_nil]
 | u :: l => by simp only [sizL, List.length_cons, sizL_len st n l]
def ptsF (st : List (ByteArray × Int)) (n : Int) (kids : List STree) : List (Int × Int) := (flwF st n (sizL st n kids)).1
theorem ptsF_len (st : List (ByteArray × Int)) (n : Int) (kids : List STree) : (ptsF st n kids).length = kids.length := by
 rw [← sizL_len st n kids]
 unfold ptsF flwF
 split
 ·exact rowsF_len ..
 ·split
  ·exact rowsF_len ..
  ·exact rowsF_len ..
def flowH (r : List (Int × Int) × Pen) (n : Nat) (v : Value) : HP := bagH (fun y : Option Addr × Nat => [OwT 143 r.1 (.slice y.1 n y.2)]) (fun y => v = .tuple #[.slice y.1 n y.2, szV (penAll r.2)])
theorem flowH.of {B : Bs} {w : World} {L : List HP} {r : List (Int × Int) × Pen} {n : Nat} {ao : Option Addr} {c : Nat} (h : St B (OwT 143 r.1 (.slice ao n c) :: L) w) : St B (flowH r n (.tuple #[.slice ao n c, szV (penAll r.2)]) :: L) w :=
 bagH.of (A := fun y : Option Addr × Nat => [OwT 143 r.1 (.slice y.1 n y.2)]) (x := (ao, c)) h rfl
theorem St.flow {B : Bs} {w : World} {L L' : List HP} {r : List (Int × Int) × Pen} {n : Nat} {v : Value} (hS : St B L w) (hat : At (flowH r n v) L L') : ∃ ao c, v = .tuple #[.slice ao n c, szV (penAll r.2)] ∧ St B (OwT 143 r.1 (.slice ao n c) :: L') w := by
 obtain ⟨⟨ao, c⟩, h1, h2⟩ := St.bag hS hat
 exact ⟨ao, c, h1, h2⟩
theorem flowH.rd6 {r : List (Int × Int) × Pen} {n : Nat} {v : Value} {w : World} (h : (flowH r n v).rd w) : ∃ ao c, v = .tuple #[.slice ao n c, szV (penAll r.2)] := by
 obtain ⟨x, hp, _⟩ := bagH.rd h
 exact ⟨x.1, x.2, hp⟩
theorem given6_any (t : STree) (h : SnH) (kid : STree) (hd : SnH) (n : Int) (w0 : World) (hf : SFits t) (hr : SrR w0 t h) (hf' : SFits kid) (hr' : SrR w0 kid hd) : Calls Tryz.prog 81 #[snV h, snV hd, .int .i64 n] w0 (Ret fun v w => v = .int .i64 (givF t.sty kid n) ∧ St w0 [] w) := by
 have hr0 := hr
 have hr0' := hr'
 obtain ⟨id, k, tag, text, cl, al, sl, kids, a1, m1, a2, m2, a3, m3, a4, m4, H, rfl, rfl, c1, c2, c3, c4, hF⟩ := hr.split
 obtain ⟨id0, k0, tag0, text0, ⟨x1, x2, x3⟩, ⟨y1, y2, y3⟩, ⟨z1, z2, z3⟩, ⟨u1, u2, u3⟩⟩ := hd
 show Calls Tryz.prog 81 #[.agg #[.int .i64 id, .int .i64 k, .string tag, .string text, .slice a1 cl.length m1, .slice a2 al.length m2, .slice a3 sl.length m3, .slice a4 H.length m4], .agg #[.int .i64 id0, .int .i64 k0, .string tag0, .string text0, .slice x1 x2 x3, .slice y1 y2 y3, .slice z1 z2 z3, .slice u1 u2 u3], .int .i64 n] w0 _
 show Calls _ _ _ _ (Ret fun v w => v = .int .i64 (givF sl kid n) ∧ St w0 [] w)
 by_cases h1 : wayF sl = 1
 ·rw [show givF sl kid n = natF kid from if_pos h1]
  refine enter Tryz.func81 rfl Tryz.ntmps81 rfl (fun a hk => ?_);have hS := St.refl w0
  (repeat' (first|((first|refine wx1 ?_|refine wx2 ?_ ?_<;>intro hp|refine s_end hk ?_)<;>(clear hk a;intro a hk))|((first|refine wx3 ?_;intro w b|refine wx4 ?_;intro w|refine wx5 ?_;intro w v);clear hk hS a;intro hS a hk)|refine wx0 ?_|fail))
  refine sg hk (g_callO hk (hf := by kernel_rfl) (hc := way6_any _ (id, k, tag, text, ⟨a1, cl.length, m1⟩, ⟨a2, al.length, m2⟩, ⟨a3, sl.length, m3⟩, ⟨a4, H.length, m4⟩) _ hf (hS.rdSr hr0)) (h := ?_));clear hk a;rintro _ w ⟨rfl, hS1⟩ a hk;replace hS := hS.call0 hS1;clear hS1
  simp only [STree.sty] at hk
  (repeat' (first|((first|refine wx1 ?_|refine wx2 ?_ ?_<;>intro hp|refine s_end hk ?_)<;>(clear hk a;intro a hk))|((first|refine wx3 ?_;intro w b|refine wx4 ?_;intro w|refine wx5 ?_;intro w v);clear hk hS a;intro hS a hk)|refine wx0 ?_|fail))
  refine sg hk (g_callO hk (hf := by kernel_rfl) (hc := nat6_any _ kid (id0, k0, tag0, text0, ⟨x1, x2, x3⟩, ⟨y1, y2, y3⟩, ⟨z1, z2, z3⟩, ⟨u1, u2, u3⟩) _ (Nat.lt_succ_self _) hf' (hS.rdSr hr0')) (h := ?_));clear hk a;rintro _ w ⟨rfl, hS1⟩ a hk;replace hS := hS.call0 hS1;clear hS1
  (repeat' (first|((first|refine wx1 ?_|refine wx2 ?_ ?_<;>intro hp|refine s_end hk ?_)<;>(clear hk a;intro a hk))|((first|refine wx3 ?_;intro w b|refine wx4 ?_;intro w|refine wx5 ?_;intro w v);clear hk hS a;intro hS a hk)|refine wx0 ?_|fail))
  exact done1 hk (h := ⟨rfl, hS.nil⟩)
 ·by_cases h2 : wayF sl = 2
  ·rw [show givF sl kid n = colF sl n by unfold givF;rw [if_neg h1, if_pos h2]]
   refine enter Tryz.func81 rfl Tryz.ntmps81 rfl (fun a hk => ?_);have hS := St.refl w0
   (repeat' (first|((first|refine wx1 ?_|refine wx2 ?_ ?_<;>intro hp|refine s_end hk ?_)<;>(clear hk a;intro a hk))|((first|refine wx3 ?_;intro w b|refine wx4 ?_;intro w|refine wx5 ?_;intro w v);clear hk hS a;intro hS a hk)|refine wx0 ?_|fail))
   refine sg hk (g_callO hk (hf := by kernel_rfl) (hc := way6_any _ (id, k, tag, text, ⟨a1, cl.length, m1⟩, ⟨a2, al.length, m2⟩, ⟨a3, sl.length, m3⟩, ⟨a4, H.length, m4⟩) _ hf (hS.rdSr hr0)) (h := ?_));clear hk a;rintro _ w ⟨rfl, hS1⟩ a hk;replace hS := hS.call0 hS1;clear hS1
   simp only [STree.sty] at hk
   (repeat' (first|((first|refine wx1 ?_|refine wx2 ?_ ?_<;>intro hp|refine s_end hk ?_)<;>(clear hk a;intro a hk))|((first|refine wx3 ?_;intro w b|refine wx4 ?_;intro w|refine wx5 ?_;intro w v);clear hk hS a;intro hS a hk)|refine wx0 ?_|fail))
   refine sg hk (g_callO hk (hf := by kernel_rfl) (hc := column6_any _ (id, k, tag, text, ⟨a1, cl.length, m1⟩, ⟨a2, al.length, m2⟩, ⟨a3, sl.length, m3⟩, ⟨a4, H.length, m4⟩) n _ hf (hS.rdSr hr0)) (h := ?_));clear hk a;rintro _ w ⟨rfl, hS1⟩ a hk;replace hS := hS.call0 hS1;clear hS1
   (repeat' (first|((first|refine wx1 ?_|refine wx2 ?_ ?_<;>intro hp|refine s_end hk ?_)<;>(clear hk a;intro a hk))|((first|refine wx3 ?_;intro w b|refine wx4 ?_;intro w|refine wx5 ?_;intro w v);clear hk hS a;intro hS a hk)|refine wx0 ?_|fail))
   exact done1 hk (h := ⟨rfl, hS.nil⟩)
  ·rw [show givF sl kid n = n by unfold givF;rw [if_neg h1, if_neg h2]]
   refine enter Tryz.func81 rfl Tryz.ntmps81 rfl (fun a hk => ?_);have hS := St.refl w0
   (repeat' (first|((first|refine wx1 ?_|refine wx2 ?_ ?_<;>intro hp|refine s_end hk ?_)<;>(clear hk a;intro a hk))|((first|refine wx3 ?_;intro w b|refine wx4 ?_;intro w|refine wx5 ?_;intro w v);clear hk hS a;intro hS a hk)|refine wx0 ?_|fail))
   refine sg hk (g_callO hk (hf := by kernel_rfl) (hc := way6_any _ (id, k, tag, text, ⟨a1, cl.length, m1⟩, ⟨a2, al.length, m2⟩, ⟨a3, sl.length, m3⟩, ⟨a4, H.length, m4⟩) _ hf (hS.rdSr hr0)) (h := ?_));clear hk a;rintro _ w ⟨rfl, hS1⟩ a hk;replace hS := hS.call0 hS1;clear hS1
   simp only [STree.sty] at hk
   (repeat' (first|((first|refine wx1 ?_|refine wx2 ?_ ?_<;>intro hp|refine s_end hk ?_)<;>(clear hk a;intro a hk))|((first|refine wx3 ?_;intro w b|refine wx4 ?_;intro w|refine wx5 ?_;intro w v);clear hk hS a;intro hS a hk)|refine wx0 ?_|fail))
   exact done1 hk (h := ⟨rfl, hS.nil⟩)
set_option maxHeartbeats 8000000 in
theorem lput6_any (t : STree) (h : SnH) (n : Int) (w0 : World) (hf : SFits t) (hr : SrR w0 t h)
  (ih : ∀ (u : STree) (hu : SnH) (g : Int) (w : World), u ∈ t.kids → SFits u → SrR w u hu → Calls Tryz.prog 76 #[snV hu, .int .i64 g] w (Ret fun v w' => v = szV (sizF u g) ∧ St w [] w')) :
  Calls Tryz.prog 79 #[snV h, .int .i64 n] w0 (Ret fun v w => St w0 [flowH (flwF t.sty n (sizL t.sty n t.kids)) t.kids.length v] w) := by
 have hfk : ∀ u ∈ t.kids, SFits u := fun u hu => hf.kid hu
 have hr0 := hr
 obtain ⟨id, k, tag, text, cl, al, sl, kids, a1, m1, a2, m2, a3, m3, a4, m4, H, rfl, rfl, c1, c2, c3, c4, hF⟩ := hr.split
 have hHk : H.length = kids.length := hF.1
 have hkl : kids.length ≤ 1000 := by cases hf with | mk _ _ _ h4 _ => exact h4
 simp only [STree.sty, STree.kids] at *
 show Calls Tryz.prog 79 #[.agg #[.int .i64 id, .int .i64 k, .string tag, .string text, .slice a1 cl.length m1, .slice a2 al.length m2, .slice a3 sl.length m3, .slice a4 H.length m4], .int .i64 n] w0 _
 refine enter Tryz.func79 rfl Tryz.ntmps79 rfl (fun a hk => ?_);have hS := St.refl w0
 refine wpIn_seq ?_;refine wpIn_region_lit ?_
 refine st_box hk hS ?_;clear hk hS a;intro w b2 hS a hk
 (repeat' (first|((first|refine wx1 ?_|refine wx2 ?_ ?_<;>intro hp|refine s_end hk ?_)<;>(clear hk a;intro a hk))|((first|refine wx3 ?_;intro w b|refine wx4 ?_;intro w|refine wx5 ?_;intro w v);clear hk hS a;intro hS a hk)|refine wx0 ?_|fail))
 rename Nat => b5
 replace hS := hS.nilT 134 (Int × Int)
 replace hk := Kn.kp [1, 2, 5, 6, 13, 14, 15] hk
 refine wp_for H.length (fun i v => [(6, .slice v.1 i v.2), (15, .int .i64 (i : Int))]) (fun i v => [OwT 134 (sizL sl n (kids.take i)) (.slice v.1 i v.2), pts b2 [.int .i64 id, .int .i64 k, .string tag, .string text, .slice a1 cl.length m1, .slice a2 al.length m2, .slice a3 sl.length m3, .slice a4 H.length m4] 77, pts b5 [.int .i64 0, .int .i64 0] 134]) (fun _ _ => True) ((none, 0) : Option Addr × Nat) hk skx (hS.sub (.cons atx (.cons atx (.cons atx sbx)))) trivial ?_
 clear hk hS a
 rintro i ⟨ao, co⟩ a w hi hk hS -
 simp only at hk hS
 have hlen : (sizL sl n (kids.take i)).length = i := by rw [sizL_len, List.length_take];omega
 by_cases hil : i < H.length
 ·obtain ⟨tk, htk⟩ : ∃ t, kids[i]? = some t := ⟨_, List.getElem?_eq_getElem (by omega)⟩
  obtain ⟨hd0, hx⟩ : ∃ x, H[i]? = some x := ⟨_, List.getElem?_eq_getElem hil⟩
  have hTr := hF.2 i tk hd0 htk hx
  have hpk := hfk tk (List.mem_of_getElem? htk)
  have hst : sizL sl n (kids.take (i + 1)) = sizL sl n (kids.take i) ++ [sizF tk (givF sl tk n)] := by rw [take_snoc htk, sizL_snoc]
  generalize sizL sl n (kids.take i) = acc at *
  obtain ⟨id0, k0, tag0, text0, ⟨x1, x2, x3⟩, ⟨y1, y2, y3⟩, ⟨z1, z2, z3⟩, ⟨u1, u2, u3⟩⟩ := hd0
  have hv1 := hS.rdT c4
  (repeat' (first|((first|refine wx1 ?_|refine wx2 ?_ ?_<;>intro hp|refine s_end hk ?_)<;>(clear hk a;intro a hk))|((first|refine wx3 ?_;intro w b|refine wx4 ?_;intro w|refine wx5 ?_;intro w v);clear hk hS a;intro hS a hk)|refine wx0 ?_|fail))
  clear hv1
  rename Nat => b8
  have hS1 := hS.sub (L' := OwT 134 acc (.slice ao i co) :: pts b8 [.int .i64 id0, .int .i64 k0, .string tag0, .string text0, .slice x1 x2 x3, .slice y1 y2 y3, .slice z1 z2 z3, .slice u1 u2 u3] 77 :: pts b2 [.int .i64 id, .int .i64 k, .string tag, .string text, .slice a1 cl.length m1, .slice a2 al.length m2, .slice a3 sl.length m3, .slice a4 H.length m4] 77 :: pts b5 [.int .i64 0, .int .i64 0] 134 :: []) (.cons atx (.cons atx (.cons atx (.cons atx sbx))))
  clear hS
  have hS := hS1
  clear hS1
  refine wp_drawnU1 9 mixed (by kernel_rfl) hk hS ?_;clear hk hS a
  (repeat' (first|(show ObxE _ _ _ _ _ _ _ _ _ (_::_) _ _ _;first|refine ox1 ?_|refine ox2 ?_ ?_<;>intro hp)|fail))
  refine' obe_val (fun us a w hk hd hS => ?_) ?_;rotate_left;focus (have hk := Kn.vw hk vwx;exact g_callO hk (hf := by kernel_rfl) (hc := given6_any _ (id, k, tag, text, ⟨a1, cl.length, m1⟩, ⟨a2, al.length, m2⟩, ⟨a3, sl.length, m3⟩, ⟨a4, H.length, m4⟩) tk (id0, k0, tag0, text0, ⟨x1, x2, x3⟩, ⟨y1, y2, y3⟩, ⟨z1, z2, z3⟩, ⟨u1, u2, u3⟩) n _ hf (hS.rdSr hr0) hpk (hS.rdSr hTr)) (h := fun _ _ h => h))
  refine' obe_val (fun us a w hk hd hS => ?_) ?_;rotate_left;focus (have hk := Kn.vw hk vwx;exact g_callO hk (hf := by kernel_rfl) (hc := ih tk (id0, k0, tag0, text0, ⟨x1, x2, x3⟩, ⟨y1, y2, y3⟩, ⟨z1, z2, z3⟩, ⟨u1, u2, u3⟩) (givF sl tk n) _ (List.mem_of_getElem? htk) hpk (hS.rdSr hTr)) (h := fun _ _ h => h))
  refine' obe_res (fun us a w hk hd hS => ?_) ?_;rotate_left;focus (have hk := Kn.vw hk vwx;exact v_bsT (xs := [(sizF tk (givF sl tk n) : Int × Int)]) (m := 0) hk (hT := eT rfl) (hE := zT rfl) (hz := oT rfl))
  refine' obe_upd (OwT 134 acc (.slice ao i co)) (fun us a w X hk hd hS hL => ?_) ?_;rotate_left;focus (have hk := Kn.vw hk vwx;exact v_app hk hS (hT := eT rfl) (hTx := eT rfl) (hs := OwT.rd hd.2.1) (hE := zT rfl) (hz := oT rfl) (hzs := rfl) (hby := bT rfl) (hbytes := by simp only [List.length_cons, List.length_nil];omega) (h63 := by simp only [List.length_cons, List.length_nil, maxLen];omega))
  refine obe_nil ⟨rfl, ?_⟩;intro us a w hk hS
  simp only [resE, List.cons_append, List.nil_append, Nat.zero_add, Nat.reduceAdd] at hS
  replace hk := Kn.kp [1, 2, 5, 6, 13, 14, 15, 27] hk
  simp only [HV.of, Nat.zero_add, Nat.reduceAdd] at hk
  generalize us 8 = v27 at hS hk
  obtain ⟨aov27, cv27, hshp, _⟩ := (OwT.rd (hS.rd (A := OwT 134 _ v27) atx)).shape;subst hshp
  have hl1 : (acc ++ [sizF tk (givF sl tk n)]).length = i + 1 := by rw [List.length_append, hlen];rfl
  rw [hl1] at hS hk
  (repeat' (first|((first|refine wx1 ?_|refine wx2 ?_ ?_<;>intro hp|refine s_end hk ?_)<;>(clear hk a;intro a hk))|((first|refine wx3 ?_;intro w b|refine wx4 ?_;intro w|refine wx5 ?_;intro w v);clear hk hS a;intro hS a hk)|refine wx0 ?_|fail))
  refine ⟨hil, (aov27, cv27), hk.sd, ?_, trivial⟩
  simp only
  rw [hst]
  exact hS.sub (.cons atx (.cons atx (.cons atx sbx)))
 ·have hii : i = H.length := by omega
  subst hii
  have hz : kids.take H.length = kids := by rw [hHk, List.take_length]
  rw [hz] at hS hlen
  have hzl : (sizL sl n kids).length ≤ 1000 := by omega
  have hHk' : H.length = (sizL sl n kids).length := by omega
  generalize hq : sizL sl n kids = sz at *
  have hsv : SlT sz (.slice ao H.length co) w := OwT.rd (hS.rd (A := OwT 134 sz (.slice ao H.length co)) atx)
  clear hsv
  (repeat' (first|((first|refine wx1 ?_|refine wx2 ?_ ?_<;>intro hp|refine s_end hk ?_)<;>(clear hk a;intro a hk))|((first|refine wx3 ?_;intro w b|refine wx4 ?_;intro w|refine wx5 ?_;intro w v);clear hk hS a;intro hS a hk)|refine wx0 ?_|fail))
  refine sg hk (g_callO hk (hf := by kernel_rfl) (hc := ask6_any _ (id, k, tag, text, ⟨a1, cl.length, m1⟩, ⟨a2, al.length, m2⟩, ⟨a3, sl.length, m3⟩, ⟨a4, H.length, m4⟩) gapS _ hf (hS.rdSr hr0)) (h := ?_));clear hk a;rintro _ w ⟨rfl, hS1⟩ a hk;replace hS := hS.call0 hS1;clear hS1
  simp only [STree.sty] at hk
  (repeat' (first|((first|refine wx1 ?_|refine wx2 ?_ ?_<;>intro hp|refine s_end hk ?_)<;>(clear hk a;intro a hk))|((first|refine wx3 ?_;intro w b|refine wx4 ?_;intro w|refine wx5 ?_;intro w v);clear hk hS a;intro hS a hk)|refine wx0 ?_|fail))
  refine sg hk (g_callO hk (hf := by kernel_rfl) (hc := way6_any _ (id, k, tag, text, ⟨a1, cl.length, m1⟩, ⟨a2, al.length, m2⟩, ⟨a3, sl.length, m3⟩, ⟨a4, H.length, m4⟩) _ hf (hS.rdSr hr0)) (h := ?_));clear hk a;rintro _ w ⟨rfl, hS1⟩ a hk;replace hS := hS.call0 hS1;clear hS1
  simp only [STree.sty] at hk
  unfold flwF
  by_cases h1 : wayF sl = 1
  ·rw [if_pos h1]
   (repeat' (first|((first|refine wx1 ?_|refine wx2 ?_ ?_<;>intro hp|refine s_end hk ?_)<;>(clear hk a;intro a hk))|((first|refine wx3 ?_;intro w b|refine wx4 ?_;intro w|refine wx5 ?_;intro w v);clear hk hS a;intro hS a hk)|refine wx0 ?_|fail))
   refine sg hk (g_callO hk (hf := by kernel_rfl) (hc := wrap6_any n (stI sl gapS) sz _ _ (OwT.rd (hS.rd (A := OwT 134 sz (.slice ao H.length co)) atx)) hzl) (h := ?_));clear hk a;rintro vr w ⟨av, cv, rfl, hS1⟩ a hk;replace hS := hS.call hS1;clear hS1
   (repeat' (first|((first|refine wx1 ?_|refine wx2 ?_ ?_<;>intro hp|refine s_end hk ?_)<;>(clear hk a;intro a hk))|((first|refine wx3 ?_;intro w b|refine wx4 ?_;intro w|refine wx5 ?_;intro w v);clear hk hS a;intro hS a hk)|refine wx0 ?_|fail))
   rw [← hHk', hHk] at hS hk
   exact done2R hk rfl (.tmp rfl) (.str hS (hT := aT rfl) (hs := zT rfl)) (h := flowH.of (hS.sub (.cons atx sbx)))
  ·rw [if_neg h1]
   by_cases h2 : wayF sl = 2
   ·rw [if_pos h2]
    (repeat' (first|((first|refine wx1 ?_|refine wx2 ?_ ?_<;>intro hp|refine s_end hk ?_)<;>(clear hk a;intro a hk))|((first|refine wx3 ?_;intro w b|refine wx4 ?_;intro w|refine wx5 ?_;intro w v);clear hk hS a;intro hS a hk)|refine wx0 ?_|fail))
    refine sg hk (g_callO hk (hf := by kernel_rfl) (hc := column6_any _ (id, k, tag, text, ⟨a1, cl.length, m1⟩, ⟨a2, al.length, m2⟩, ⟨a3, sl.length, m3⟩, ⟨a4, H.length, m4⟩) n _ hf (hS.rdSr hr0)) (h := ?_));clear hk a;rintro _ w ⟨rfl, hS1⟩ a hk;replace hS := hS.call0 hS1;clear hS1
    simp only [STree.sty] at hk
    (repeat' (first|((first|refine wx1 ?_|refine wx2 ?_ ?_<;>intro hp|refine s_end hk ?_)<;>(clear hk a;intro a hk))|((first|refine wx3 ?_;intro w b|refine wx4 ?_;intro w|refine wx5 ?_;intro w v);clear hk hS a;intro hS a hk)|refine wx0 ?_|fail))
    refine sg hk (g_callO hk (hf := by kernel_rfl) (hc := grid6_any (colsF (stI sl colsS)) (colF sl n) (stI sl gapS) sz _ _ (OwT.rd (hS.rd (A := OwT 134 sz (.slice ao H.length co)) atx)) hzl) (h := ?_));clear hk a;rintro vr w ⟨av, cv, rfl, hS1⟩ a hk;replace hS := hS.call hS1;clear hS1
    (repeat' (first|((first|refine wx1 ?_|refine wx2 ?_ ?_<;>intro hp|refine s_end hk ?_)<;>(clear hk a;intro a hk))|((first|refine wx3 ?_;intro w b|refine wx4 ?_;intro w|refine wx5 ?_;intro w v);clear hk hS a;intro hS a hk)|refine wx0 ?_|fail))
    rw [← hHk', hHk] at hS hk
    exact done2R hk rfl (.tmp rfl) (.str hS (hT := aT rfl) (hs := zT rfl)) (h := flowH.of (hS.sub (.cons atx sbx)))
   ·rw [if_neg h2]
    (repeat' (first|((first|refine wx1 ?_|refine wx2 ?_ ?_<;>intro hp|refine s_end hk ?_)<;>(clear hk a;intro a hk))|((first|refine wx3 ?_;intro w b|refine wx4 ?_;intro w|refine wx5 ?_;intro w v);clear hk hS a;intro hS a hk)|refine wx0 ?_|fail))
    refine sg hk (g_callO hk (hf := by kernel_rfl) (hc := stack6_any (stI sl gapS) sz _ _ (OwT.rd (hS.rd (A := OwT 134 sz (.slice ao H.length co)) atx)) hzl) (h := ?_));clear hk a;rintro vr w ⟨av, cv, rfl, hS1⟩ a hk;replace hS := hS.call hS1;clear hS1
    (repeat' (first|((first|refine wx1 ?_|refine wx2 ?_ ?_<;>intro hp|refine s_end hk ?_)<;>(clear hk a;intro a hk))|((first|refine wx3 ?_;intro w b|refine wx4 ?_;intro w|refine wx5 ?_;intro w v);clear hk hS a;intro hS a hk)|refine wx0 ?_|fail))
    rw [← hHk', hHk] at hS hk
    exact done2R hk rfl (.tmp rfl) (.str hS (hT := aT rfl) (hs := zT rfl)) (h := flowH.of (hS.sub (.cons atx sbx)))
set_option maxHeartbeats 8000000 in
theorem size6_any : ∀ (m : Nat) (t : STree) (h : SnH) (g : Int) (w0 : World), SizeOf.sizeOf t < m → SFits t → SrR w0 t h → Calls Tryz.prog 76 #[snV h, .int .i64 g] w0 (Ret fun v w => v = szV (sizF t g) ∧ St w0 [] w)
 | 0, _, _, _, _, hn, _, _ => by omega
 | m + 1, t, h, g, w0, hn, hf, hr => by
  have hp := fun (n : Int) (w : World) (hr : SrR w t h) => lput6_any t h n w hf hr (fun u hu g w hm hfu hru => size6_any m u hu g w (by have : SizeOf.sizeOf u < SizeOf.sizeOf t := (by cases t;exact skid_lt hm);omega) hfu hru)
  have hr0 := hr
  obtain ⟨id, k, tag, text, cl, al, sl, kids, a1, m1, a2, m2, a3, m3, a4, m4, H, rfl, rfl, c1, c2, c3, c4, hF⟩ := hr.split
  simp only [STree.sty, STree.kids] at hp
  show Calls Tryz.prog 76 #[.agg #[.int .i64 id, .int .i64 k, .string tag, .string text, .slice a1 cl.length m1, .slice a2 al.length m2, .slice a3 sl.length m3, .slice a4 H.length m4], .int .i64 g] w0 _
  by_cases hk1 : k = 1
  ·subst hk1
   rw [show sizF (.mk id 1 tag text cl al sl kids) g = (satF text.size, 1) by simp only [sizF, if_true]]
   refine enter Tryz.func76 rfl Tryz.ntmps76 rfl (fun a hk => ?_);have hS := St.refl w0
   (repeat' (first|((first|refine wx1 ?_|refine wx2 ?_ ?_<;>intro hp|refine s_end hk ?_)<;>(clear hk a;intro a hk))|((first|refine wx3 ?_;intro w b|refine wx4 ?_;intro w|refine wx5 ?_;intro w v);clear hk hS a;intro hS a hk)|refine wx0 ?_|fail))
   refine sg hk (g_callO hk (hf := by kernel_rfl) (hc := nat6_any _ (.mk id 1 tag text cl al sl kids) (id, 1, tag, text, ⟨a1, cl.length, m1⟩, ⟨a2, al.length, m2⟩, ⟨a3, sl.length, m3⟩, ⟨a4, H.length, m4⟩) _ (Nat.lt_succ_self _) hf (hS.rdSr hr0)) (h := ?_));clear hk a;rintro _ w ⟨rfl, hS1⟩ a hk;replace hS := hS.call0 hS1;clear hS1
   rw [show natF (.mk id 1 tag text cl al sl kids) = satF text.size by simp only [natF, if_true]] at hk
   (repeat' (first|((first|refine wx1 ?_|refine wx2 ?_ ?_<;>intro hp|refine s_end hk ?_)<;>(clear hk a;intro a hk))|((first|refine wx3 ?_;intro w b|refine wx4 ?_;intro w|refine wx5 ?_;intro w v);clear hk hS a;intro hS a hk)|refine wx0 ?_|fail))
   exact done1R hk rfl (.str hS (hT := aT rfl) (hs := zT rfl)) (h := ⟨rfl, hS.nil⟩)
  ·cases hb : stB sl hS6
   ·rw [show sizF (.mk id k tag text cl al sl kids) g = (widF sl g, addF (penAll (flwF sl (insF6 sl g) (sizL sl (insF6 sl g) kids)).2).2 (addF (stI sl padS) (stI sl padS))) by simp only [sizF, if_neg hk1, hb];rfl]
    refine enter Tryz.func76 rfl Tryz.ntmps76 rfl (fun a hk => ?_);have hS := St.refl w0
    refine wpIn_seq ?_;refine wpIn_region_lit ?_
    refine st_box hk hS ?_;clear hk hS a;intro w b2 hS a hk
    (repeat' (first|((first|refine wx1 ?_|refine wx2 ?_ ?_<;>intro hp|refine s_end hk ?_)<;>(clear hk a;intro a hk))|((first|refine wx3 ?_;intro w b|refine wx4 ?_;intro w|refine wx5 ?_;intro w v);clear hk hS a;intro hS a hk)|refine wx0 ?_|fail))
    rename Nat => b4
    refine sg hk (g_callO hk (hf := by kernel_rfl) (hc := style6_any _ (id, k, tag, text, ⟨a1, cl.length, m1⟩, ⟨a2, al.length, m2⟩, ⟨a3, sl.length, m3⟩, ⟨a4, H.length, m4⟩) hS6 _ hf (hS.rdSr hr0)) (h := ?_));clear hk a;rintro _ w ⟨rfl, hS1⟩ a hk;replace hS := hS.call0 hS1;clear hS1
    simp only [STree.sty] at hk
    rw [hb] at hk
    (repeat' (first|((first|refine wx1 ?_|refine wx2 ?_ ?_<;>intro hp|refine s_end hk ?_)<;>(clear hk a;intro a hk))|((first|refine wx3 ?_;intro w b|refine wx4 ?_;intro w|refine wx5 ?_;intro w v);clear hk hS a;intro hS a hk)|refine wx0 ?_|fail))
    refine wp_drawn 10 mixed (by kernel_rfl) hk hS ?_;clear hk hS a
    (repeat' (first|(show ObxE _ _ _ _ _ _ _ _ _ (_::_) _ _ _;first|refine ox1 ?_|refine ox2 ?_ ?_<;>intro hp)|fail))
    refine' obe_val (fun us a w hk hd hS => ?_) ?_;rotate_left;focus (have hk := Kn.vw hk vwx;exact g_callO hk (hf := by kernel_rfl) (hc := inside6_any _ (id, k, tag, text, ⟨a1, cl.length, m1⟩, ⟨a2, al.length, m2⟩, ⟨a3, sl.length, m3⟩, ⟨a4, H.length, m4⟩) g _ hf (hS.rdSr hr0)) (h := fun _ _ h => h))
    refine' obe_res (V := flowH (flwF sl (insF6 sl g) (sizL sl (insF6 sl g) kids)) kids.length) (fun us a w hk hd hS => ?_) ?_
    ·have hk := Kn.vw hk vwx
     exact g_callO hk (hf := by kernel_rfl) (hc := hp (insF6 sl g) _ (hS.rdSr hr0)) (h := fun _ _ h => h)
    refine' obe_cpy 27 4 (fun us a w hk hd hS => ?_) ?_;focus (have hk := Kn.vw hk vwx;first | exact g_assign hk (same _ _) | exact g_move hk (same _ _))
    refine' obe_via 22 4 (tupA 0) (fun us a w hk hd2 hS => ?_) ?_
    ·have hk := Kn.vw hk vwx
     obtain ⟨ao, c, e⟩ := flowH.rd6 (hd2 22 (by decide) _ _ rfl 4 (by simp [HV.srcs]) _ _ (lkE_mem (t := 27) rfl) _ rfl)
     rw [e] at hk ⊢
     exact g_ex0 hk (same _ _)
    refine' obe_via 22 4 (tupA 1) (fun us a w hk hd2 hS => ?_) ?_
    ·have hk := Kn.vw hk vwx
     obtain ⟨ao, c, e⟩ := flowH.rd6 (hd2 22 (by decide) _ _ rfl 4 (by simp [HV.srcs]) _ _ (lkE_mem (t := 27) rfl) _ rfl)
     rw [e] at hk ⊢
     exact g_ex1 hk (same _ _)
    refine' obe_res (fun us a w hk hd hS => ?_) ?_;rotate_left;focus (have hk := Kn.vw hk vwx;exact v_alloc hk (oT rfl))
    refine' obe_via 28 4 (tupA 0) (fun us a w hk hd2 hS => ?_) ?_
    ·have hk := Kn.vw hk vwx
     exact g_assign hk (same _ _)
    refine obe_nil ⟨rfl, ?_⟩;intro us a w hk hS
    simp only [resE, List.cons_append, List.nil_append, Nat.zero_add, Nat.reduceAdd] at hS
    obtain ⟨b8, hb8, hS1⟩ := hS.ptv atx;replace hS := hS1;clear hS1
    obtain ⟨ap, cp, e4, hS1⟩ := hS.flow atx
    clear hS
    have hS := hS1
    clear hS1
    replace hk := Kn.kp [1, 2, 4, 8, 29] hk
    simp only [HV.of, Nat.zero_add, Nat.reduceAdd, List.map_cons, List.map_nil, List.getD_cons_zero] at hk
    rw [hb8, e4] at hk
    generalize penAll (flwF sl (insF6 sl g) (sizL sl (insF6 sl g) kids)).2 = pw at *
    obtain ⟨pw1, pw2⟩ := pw
    replace hk := hk.sub (l' := [(1, .int .i64 g), (2, pA b2), (4, pA b4), (8, pA b8), (29, .agg #[.int .i64 pw1, .int .i64 pw2])]) skx
    (repeat' (first|((first|refine wx1 ?_|refine wx2 ?_ ?_<;>intro hp|refine s_end hk ?_)<;>(clear hk a;intro a hk))|((first|refine wx3 ?_;intro w b|refine wx4 ?_;intro w|refine wx5 ?_;intro w v);clear hk hS a;intro hS a hk)|refine wx0 ?_|fail))
    refine wp_drawn 6 mixed (by kernel_rfl) hk hS ?_;clear hk hS a
    (repeat' (first|(show ObxE _ _ _ _ _ _ _ _ _ (_::_) _ _ _;first|refine ox1 ?_|refine ox2 ?_ ?_<;>intro hp)|fail))
    refine' obe_val (fun us a w hk hd hS => ?_) ?_;rotate_left;focus (have hk := Kn.vw hk vwx;exact g_callO hk (hf := by kernel_rfl) (hc := ask6_any _ (id, k, tag, text, ⟨a1, cl.length, m1⟩, ⟨a2, al.length, m2⟩, ⟨a3, sl.length, m3⟩, ⟨a4, H.length, m4⟩) padS _ hf (hS.rdSr hr0)) (h := fun _ _ h => h))
    refine' obe_val (fun us a w hk hd hS => ?_) ?_;rotate_left;focus (have hk := Kn.vw hk vwx;exact g_callO hk (hf := by kernel_rfl) (hc := twice6_any _ _) (h := fun _ _ h => h))
    refine' obe_val (fun us a w hk hd hS => ?_) ?_;rotate_left;focus (have hk := Kn.vw hk vwx;exact g_callO hk (hf := by kernel_rfl) (hc := add_any _ _ _) (h := fun _ _ h => h))
    refine obe_nil ⟨rfl, ?_⟩;intro us a w hk hS
    (repeat' (first|((first|refine wx1 ?_|refine wx2 ?_ ?_<;>intro hp|refine s_end hk ?_)<;>(clear hk a;intro a hk))|((first|refine wx3 ?_;intro w b|refine wx4 ?_;intro w|refine wx5 ?_;intro w v);clear hk hS a;intro hS a hk)|refine wx0 ?_|fail))
    refine sg hk (g_callO hk (hf := by kernel_rfl) (hc := width6_any _ (id, k, tag, text, ⟨a1, cl.length, m1⟩, ⟨a2, al.length, m2⟩, ⟨a3, sl.length, m3⟩, ⟨a4, H.length, m4⟩) g _ hf (hS.rdSr hr0)) (h := ?_));clear hk a;rintro _ w ⟨rfl, hS1⟩ a hk;replace hS := hS.call0 hS1;clear hS1
    simp only [STree.sty] at hk
    (repeat' (first|((first|refine wx1 ?_|refine wx2 ?_ ?_<;>intro hp|refine s_end hk ?_)<;>(clear hk a;intro a hk))|((first|refine wx3 ?_;intro w b|refine wx4 ?_;intro w|refine wx5 ?_;intro w v);clear hk hS a;intro hS a hk)|refine wx0 ?_|fail))
    exact done1R hk rfl (.str hS (hT := aT rfl) (hs := zT rfl)) (h := ⟨rfl, hS.nil⟩)
   ·rw [show sizF (.mk id k tag text cl al sl kids) g = (widF sl g, stI sl hS6) by simp only [sizF, if_neg hk1, hb];rfl]
    refine enter Tryz.func76 rfl Tryz.ntmps76 rfl (fun a hk => ?_);have hS := St.refl w0
    (repeat' (first|((first|refine wx1 ?_|refine wx2 ?_ ?_<;>intro hp|refine s_end hk ?_)<;>(clear hk a;intro a hk))|((first|refine wx3 ?_;intro w b|refine wx4 ?_;intro w|refine wx5 ?_;intro w v);clear hk hS a;intro hS a hk)|refine wx0 ?_|fail))
    refine sg hk (g_callO hk (hf := by kernel_rfl) (hc := style6_any _ (id, k, tag, text, ⟨a1, cl.length, m1⟩, ⟨a2, al.length, m2⟩, ⟨a3, sl.length, m3⟩, ⟨a4, H.length, m4⟩) hS6 _ hf (hS.rdSr hr0)) (h := ?_));clear hk a;rintro _ w ⟨rfl, hS1⟩ a hk;replace hS := hS.call0 hS1;clear hS1
    simp only [STree.sty] at hk
    rw [hb] at hk
    (repeat' (first|((first|refine wx1 ?_|refine wx2 ?_ ?_<;>intro hp|refine s_end hk ?_)<;>(clear hk a;intro a hk))|((first|refine wx3 ?_;intro w b|refine wx4 ?_;intro w|refine wx5 ?_;intro w v);clear hk hS a;intro hS a hk)|refine wx0 ?_|fail))
    refine sg hk (g_callO hk (hf := by kernel_rfl) (hc := width6_any _ (id, k, tag, text, ⟨a1, cl.length, m1⟩, ⟨a2, al.length, m2⟩, ⟨a3, sl.length, m3⟩, ⟨a4, H.length, m4⟩) g _ hf (hS.rdSr hr0)) (h := ?_));clear hk a;rintro _ w ⟨rfl, hS1⟩ a hk;replace hS := hS.call0 hS1;clear hS1
    simp only [STree.sty] at hk
    (repeat' (first|((first|refine wx1 ?_|refine wx2 ?_ ?_<;>intro hp|refine s_end hk ?_)<;>(clear hk a;intro a hk))|((first|refine wx3 ?_;intro w b|refine wx4 ?_;intro w|refine wx5 ?_;intro w v);clear hk hS a;intro hS a hk)|refine wx0 ?_|fail))
    exact done1R hk rfl (.str hS (hT := aT rfl) (hs := zT rfl)) (h := ⟨rfl, hS.nil⟩)
end Go.Proofs.YtbpkddpkcnlmhaaGreat
