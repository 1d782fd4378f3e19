/- The top (grown): ops done again, with another Dom; the order of nodes. Layer 8, plain: the tokens of a text, the view that they make, or what is wrong first, and where. Layer 8, plain: where tokens and views end; a text's tokens in a row. Layer 8, plain: a token, case by case, as a reader comes to it. Layer 8, plain: a text cut at a byte. Layer 8, plain: a word of an element's, as the program takes it. Layer 8, plain: a word of an element's: as the program takes it is as the reader has it. Layer 8, plain: a word of an element's, by the program and by the reader: the same. -/
import Derived.Test.YtnjmonkehjlaoaaGreatDoorG11
import Derived.Test.YtnjmonkehjlaoaaGreatDoorG10
import Derived.Test.YtnjmonkehjlaoaaGreatDoorG08
import Derived.Lib.Bytealg
import Derived.KernelRfl
set_option linter.all false
namespace Go.Proofs.YtnjmonkehjlaoaaGreatDoor
open Go.RowKit
set_option maxRecDepth 100000
attribute [local irreducible] Go.Code.wpIn Go.wpListIn Go.Calls Gives Go.Exit.then Go.Exit.inBlock Done ObxE
theorem nums5_any (l : List Int) (hl : l.length ≤ 1000) (v u : Value) (w0 : World) (hv : SlT l v w0) (hu : SlT l u w0) : Calls Tryz.prog 17 #[v, u] w0 (Ret fun v w => v = .bool true ∧ St w0 [] w) := by
 refine enter Tryz.func17 rfl Tryz.ntmps17 rfl (fun a hk => ?_);have hS := St.refl w0
 (repeat' (first|((first|refine wx1 ?_|refine wx2 ?_ ?_<;>intro hp|refine s_end hk ?_)<;>(clear hk a;intro a hk))|((first|refine wx3 ?_;intro w b|refine wx4 ?_;intro w|refine wx5 ?_;intro w v);clear hk hS a;intro hS a hk)|refine wx0 ?_|fail))
 replace hk := Kn.kp [0, 1, 12, 13] hk
 refine wp_for l.length (fun i _ => [(13, .int .i64 (i : Int))]) (fun _ _ => []) (fun _ _ => True) () hk skx hS.sb trivial ?_
 clear hk hS a
 rintro i - a w hi hk hS -
 by_cases hil : i < l.length
 ·obtain ⟨x, hx⟩ : ∃ x, l[i]? = some x := ⟨_, List.getElem?_eq_getElem hil⟩
  have hv1 := hS.rdT hv
  have hu1 := hS.rdT hu
  (repeat' (first|((first|refine wx1 ?_|refine wx2 ?_ ?_<;>intro hp|refine s_end hk ?_)<;>(clear hk a;intro a hk))|((first|refine wx3 ?_;intro w b|refine wx4 ?_;intro w|refine wx5 ?_;intro w v);clear hk hS a;intro hS a hk)|refine wx0 ?_|fail))
  refine wp_drawn 9 mixed (by kernel_rfl) hk hS ?_;clear hk hS a
  (repeat' (first|(show ObxE _ _ _ _ _ _ _ _ _ (_::_) _ _ _;first|refine ox1 ?_|refine ox2 ?_ ?_<;>intro hp)|fail))
  refine obe_nil ⟨rfl, ?_⟩;intro us a w hk hS
  (repeat' (first|((first|refine wx1 ?_|refine wx2 ?_ ?_<;>intro hp|refine s_end hk ?_)<;>(clear hk a;intro a hk))|((first|refine wx3 ?_;intro w b|refine wx4 ?_;intro w|refine wx5 ?_;intro w v);clear hk hS a;intro hS a hk)|refine wx0 ?_|fail))
  exact ⟨hil, (), hk.sd, hS.sb, trivial⟩
 ·have hii : i = l.length := by omega
  subst hii
  (repeat' (first|((first|refine wx1 ?_|refine wx2 ?_ ?_<;>intro hp|refine s_end hk ?_)<;>(clear hk a;intro a hk))|((first|refine wx3 ?_;intro w b|refine wx4 ?_;intro w|refine wx5 ?_;intro w v);clear hk hS a;intro hS a hk)|refine wx0 ?_|fail))
  exact done1 hk (h := ⟨rfl, hS.nil⟩)
set_option maxHeartbeats 2000000 in
theorem ord1_any {B : Bs} {w : World} {L : List HP} (bo b : Nat) (acc : List Int) (n : NodeP) (y : NoA) (hl : acc.length ≤ 10000) (hn : ∀ w, St B L w → (pts b (nodC n y) 93).rd w) (hS : St B (outH bo acc :: L) w) :
  Calls Tryz.prog 39 #[pA b, pA bo] w (Ret fun _ w' => St B (outH bo (acc ++ [n.id]) :: L) w') := by
 simp only [nodC] at hn
 obtain ⟨ao, co, hS1⟩ := hS.out5 (bo := bo) (acc := acc) .here
 clear hS
 have hS := hS1
 clear hS1
 simp only [outL, List.cons_append, List.nil_append] at hS
 refine enter Tryz.func39 rfl Tryz.ntmps39 rfl (fun a hk => ?_)
 (repeat' (first|((first|refine wx1 ?_|refine wx2 ?_ ?_<;>intro hp|refine s_end hk ?_)<;>(clear hk a;intro a hk))|((first|refine wx3 ?_;intro w b|refine wx4 ?_;intro w|refine wx5 ?_;intro w v);clear hk hS a;intro hS a hk)|refine wx0 ?_|fail))
 refine wp_drawn 6 mixed (by kernel_rfl) hk hS ?_;clear hk hS a
 (repeat' (first|(show ObxE _ _ _ _ _ _ _ _ _ (_::_) _ _ _;first|refine ox1 ?_|refine ox2 ?_ ?_<;>intro hp)|fail))
 refine' obe_val (fun us a w hk hd hS => ?_) ?_;rotate_left;focus (have hk := Kn.vw hk vwx;exact g_var1 hk (same _ _) (aT rfl) (hb := hn _ (hS.sub (Sub.under (Sub.under .refl)))))
 refine' obe_res (fun us a w hk hd hS => ?_) ?_;rotate_left;focus (have hk := Kn.vw hk vwx;exact v_bsT (xs := [n.id]) (m := 0) hk (hT := eT rfl) (hE := zT rfl) (hz := oT rfl))
 refine obe_nil ⟨rfl, ?_⟩;intro us a w hk hS
 simp only [resE, List.cons_append, List.nil_append, Nat.zero_add, Nat.reduceAdd] at hS
 replace hk := Kn.kp [1, 3, 8] hk
 simp only [HV.of, Nat.zero_add, Nat.reduceAdd] at hk
 generalize us 5 = v8 at hS hk
 refine sg hk (g_appD hk hS ?_ (hT := eT rfl) (hTx := eT rfl) (hE := zT rfl) (hz := oT rfl) (hzs := rfl) (hby := bT rfl) (hbytes := (by simp only [List.length_cons, List.length_nil];omega)) (h63 := (by simp only [List.length_cons, List.length_nil, maxLen];omega)));clear hk hS a;intro w v hS a hk
 rename Value => vn
 obtain ⟨aovn, cvn, hshp, _⟩ := (OwT.rd (hS.rd (A := OwT 3 _ vn) atx)).shape;subst hshp
 (repeat' (first|((first|refine wx1 ?_|refine wx2 ?_ ?_<;>intro hp|refine s_end hk ?_)<;>(clear hk a;intro a hk))|((first|refine wx3 ?_;intro w b|refine wx4 ?_;intro w|refine wx5 ?_;intro w v);clear hk hS a;intro hS a hk)|refine wx0 ?_|fail))
 exact done0n hk (h := outH.of (y := (aovn, cvn)) (hS.sub (.cons atx (.cons atx sbx))))
theorem ndsY.of_rd {bl : Int → Nat} {l : List NodeP} {w : World} (h : (ndsH bl l).rd w) (hu : (l.map (·.id)).Nodup) : ∃ yy, (ndsY bl yy l).rd w := by
 obtain ⟨F, hlt, ⟨⟩, -, hs⟩ := h
 obtain ⟨yy, hy⟩ := sep_fix hu hs hlt
 exact ⟨yy, F, hlt, (), trivial, hy⟩
set_option maxHeartbeats 8000000 in
theorem orderR_any {bd bm K : Nat} {bl : Int → Nat} {D : DomP} (hW : WfD D) (hb : Bnd K D) (hK : K ≤ 800) (w0 : World) (hDR : DomR bd D bm bl w0) :
  Calls Tryz.prog 18 #[pA bd] w0 (Ret fun v w => St w0 [OwT 3 (preN D.f 0) v] w) := by
 have hlen := hb.len
 have hpl := pre_len hW 0
 obtain ⟨yy, hn⟩ := ndsY.of_rd hDR.n hW.uni
 have hY : ∀ w, St w0 [] w → DomY bd D bm bl yy w := fun w h => ⟨hDR.d.mono h.below, hDR.m.mono h.below, hn.mono h.below⟩
 obtain ⟨r0, hr0, -⟩ := hW.wf.root
 refine enter Tryz.func18 rfl Tryz.ntmps18 rfl (fun a hk => ?_);have hS := St.refl w0
 (repeat' (first|((first|refine wx1 ?_|refine wx2 ?_ ?_<;>intro hp|refine s_end hk ?_)<;>(clear hk a;intro a hk))|((first|refine wx3 ?_;intro w b|refine wx4 ?_;intro w|refine wx5 ?_;intro w v);clear hk hS a;intro hS a hk)|refine wx0 ?_|fail))
 rename Nat => bo
 have hS1 : St w0 (outH bo [] :: []) w := outH.of (y := (none, 0)) ((hS.nilT 3 Int).sub (.cons atx (.cons atx sbx)))
 clear hS
 have hS := hS1
 clear hS1
 refine sg hk (g_callO hk (hf := by kernel_rfl) (hc := each5_any (bd := bd) (bm := bm) (bl := bl) (yy := yy) (D := D) 39 (by kernel_rfl)
  (fun acc w h => hY w h.nil)
  (fun i m acc w hm hl h => ord1_any bo (bl i) acc m (yy i) hl (fun w h => (ndsY.rd5 (hY w h).n hm).1) h)
  hW.wf.accD
  (fun i m hm k hk => by obtain ⟨c, hc, -⟩ := hW.wf.down i m hm k hk;exact ⟨c, hc⟩)
  (fun i m hm => by have := (hb.get hm).kids;omega)
  0 ⟨r0, hr0⟩ [] _ (by simp only [List.length_nil];omega) hS) (h := ?_));clear hk hS a;intro v6 w hS a hk
 rw [List.nil_append] at hS
 generalize preN D.f 0 = P at *
 obtain ⟨ao, co, hS1⟩ := hS.out5 (bo := bo) (acc := P) .here
 clear hS
 have hS := hS1
 clear hS1
 simp only [outL, List.cons_append, List.nil_append] at hS
 (repeat' (first|((first|refine wx1 ?_|refine wx2 ?_ ?_<;>intro hp|refine s_end hk ?_)<;>(clear hk a;intro a hk))|((first|refine wx3 ?_;intro w b|refine wx4 ?_;intro w|refine wx5 ?_;intro w v);clear hk hS a;intro hS a hk)|refine wx0 ?_|fail))
 exact done1 hk (h := hS.sub (.cons atx sbx))
section
variable {B : Bs} {w : World} {L : List HP} {bd K : Nat} {D : DomP}
abbrev opL (b2 b3 bd : Nat) (o : OpP) (L : List HP) : List HP := pts b3 [pA bd] 49 :: pts b2 (opC o) 97 :: L
set_option maxHeartbeats 4000000 in
theorem do1_any {b2 b3 : Nat} (o : OpP) (hW : WfD D) (hb : Bnd K D) (hK : K ≤ 800) (hn : o.2.2.2.2.1.size ≤ 1000000) (hS : St B (domH bd D :: opL b2 b3 bd o L) w) :
  Calls Tryz.prog 61 #[pA b3, pA b2] w (Ret fun v w' => v = .tuple #[.int .i64 (elemP D o.2.2.2.2.1).2.1, .int .i64 (elemP D o.2.2.2.2.1).2.2] ∧ St B (domH bd (elemP D o.2.2.2.2.1).1 :: opL b2 b3 bd o L) w') := by
 obtain ⟨o1, o2, o3, o4, o5, o6⟩ := o
 simp only [opL, opC] at hS hn ⊢
 refine enter Tryz.func61 rfl Tryz.ntmps61 rfl (fun a hk => ?_)
 (repeat' (first|((first|refine wx1 ?_|refine wx2 ?_ ?_<;>intro hp|refine s_end hk ?_)<;>(clear hk a;intro a hk))|((first|refine wx3 ?_;intro w b|refine wx4 ?_;intro w|refine wx5 ?_;intro w v);clear hk hS a;intro hS a hk)|refine wx0 ?_|fail))
 refine sg hk (g_callO hk (hf := by kernel_rfl) (hc := elem5_any o5 hn hW hb (by omega) hS) (h := ?_));clear hk hS a;rintro _ w ⟨rfl, hS⟩ a hk
 (repeat' (first|((first|refine wx1 ?_|refine wx2 ?_ ?_<;>intro hp|refine s_end hk ?_)<;>(clear hk a;intro a hk))|((first|refine wx3 ?_;intro w b|refine wx4 ?_;intro w|refine wx5 ?_;intro w v);clear hk hS a;intro hS a hk)|refine wx0 ?_|fail))
 exact done2 hk (h := ⟨rfl, hS⟩)
set_option maxHeartbeats 4000000 in
theorem do2_any {b2 b3 : Nat} (o : OpP) (hW : WfD D) (hb : Bnd K D) (hK : K ≤ 800) (hS : St B (domH bd D :: opL b2 b3 bd o L) w) :
  Calls Tryz.prog 62 #[pA b3, pA b2] w (Ret fun v w' => v = .tuple #[.int .i64 (textP D o.2.2.2.2.2).2.1, .int .i64 (textP D o.2.2.2.2.2).2.2] ∧ St B (domH bd (textP D o.2.2.2.2.2).1 :: opL b2 b3 bd o L) w') := by
 obtain ⟨o1, o2, o3, o4, o5, o6⟩ := o
 simp only [opL, opC] at hS ⊢
 refine enter Tryz.func62 rfl Tryz.ntmps62 rfl (fun a hk => ?_)
 (repeat' (first|((first|refine wx1 ?_|refine wx2 ?_ ?_<;>intro hp|refine s_end hk ?_)<;>(clear hk a;intro a hk))|((first|refine wx3 ?_;intro w b|refine wx4 ?_;intro w|refine wx5 ?_;intro w v);clear hk hS a;intro hS a hk)|refine wx0 ?_|fail))
 refine sg hk (g_callO hk (hf := by kernel_rfl) (hc := text5_any o6 hW hb (by omega) hS) (h := ?_));clear hk hS a;rintro _ w ⟨rfl, hS⟩ a hk
 (repeat' (first|((first|refine wx1 ?_|refine wx2 ?_ ?_<;>intro hp|refine s_end hk ?_)<;>(clear hk a;intro a hk))|((first|refine wx3 ?_;intro w b|refine wx4 ?_;intro w|refine wx5 ?_;intro w v);clear hk hS a;intro hS a hk)|refine wx0 ?_|fail))
 exact done2 hk (h := ⟨rfl, hS⟩)
set_option maxHeartbeats 4000000 in
theorem made_any {b2 b3 : Nat} {D2 : DomP} {x e : Int} {M : List HP} (fid : FuncId) (hf : callable Tryz.prog fid = true) (id : Int) (hc : ∀ w, St B (domH bd D :: M) w → Calls Tryz.prog fid #[pA b3, pA b2] w (Ret fun v w' => v = .tuple #[.int .i64 x, .int .i64 e] ∧ St B (domH bd D2 :: M) w')) (hS : St B (domH bd D :: M) w) :
  Calls Tryz.prog 60 #[pA bd, .int .i64 id, .func (.func fid) #[] #[pA b3, pA b2]] w (Ret fun v w' => if D.next ≠ id then v = .int .i64 1 ∧ St B (domH bd D :: M) w' else v = .int .i64 e ∧ St B (domH bd D2 :: M) w') := by
 refine enter Tryz.func60 rfl Tryz.ntmps60 rfl (fun a hk => ?_)
 (repeat' (first|((first|refine wx1 ?_|refine wx2 ?_ ?_<;>intro hp|refine s_end hk ?_)<;>(clear hk a;intro a hk))|((first|refine wx3 ?_;intro w b|refine wx4 ?_;intro w|refine wx5 ?_;intro w v);clear hk hS a;intro hS a hk)|refine wx0 ?_|fail))
 obtain ⟨bm, bb, hDR⟩ := domH.get (hS.rd (A := domH bd D) atx)
 refine sg hk (g_callO hk (hf := by kernel_rfl) (hc := next5_any _ hDR) (h := ?_));clear hk a;rintro _ w ⟨rfl, hS1⟩ a hk;replace hS := hS.call0 hS1;clear hS1
 clear hDR
 by_cases hn : D.next = id
 ·(repeat' (first|((first|refine wx1 ?_|refine wx2 ?_ ?_<;>intro hp|refine s_end hk ?_)<;>(clear hk a;intro a hk))|((first|refine wx3 ?_;intro w b|refine wx4 ?_;intro w|refine wx5 ?_;intro w v);clear hk hS a;intro hS a hk)|refine wx0 ?_|fail))
  refine sg hk (g_callvO (first := []) (cap := [pA b3, pA b2]) hk (hf := hf) (hc := hc _ hS) (h := ?_));clear hk hS a;rintro _ w ⟨rfl, hS⟩ a hk
  (repeat' (first|((first|refine wx1 ?_|refine wx2 ?_ ?_<;>intro hp|refine s_end hk ?_)<;>(clear hk a;intro a hk))|((first|refine wx3 ?_;intro w b|refine wx4 ?_;intro w|refine wx5 ?_;intro w v);clear hk hS a;intro hS a hk)|refine wx0 ?_|fail))
  exact done1 hk (h := by rw [if_neg (fun h => h hn)];exact ⟨rfl, hS⟩)
 ·(repeat' (first|((first|refine wx1 ?_|refine wx2 ?_ ?_<;>intro hp|refine s_end hk ?_)<;>(clear hk a;intro a hk))|((first|refine wx3 ?_;intro w b|refine wx4 ?_;intro w|refine wx5 ?_;intro w v);clear hk hS a;intro hS a hk)|refine wx0 ?_|fail))
  exact done1 hk (h := by rw [if_pos hn];exact ⟨rfl, hS⟩)
set_option maxHeartbeats 8000000 in
theorem do6_any (o : OpP) (hW : WfD D) (hb : Bnd K D) (hK : K ≤ 800) (ho : (o.1 = 1 ∧ o.2.2.2.2.1.size ≤ 1000000) ∨ o.1 = 2 ∨ o.1 = 3) (hS : St B (domH bd D :: L) w) :
  Calls Tryz.prog 36 #[.agg (opC o).toArray, pA bd] w (Ret fun v w' => v = .int .i64 (doO D o).2 ∧ St B (domH bd (doO D o).1 :: L) w') := by
 obtain ⟨o1, o2, o3, o4, o5, o6⟩ := o
 simp only at ho
 refine enter Tryz.func36 rfl Tryz.ntmps36 rfl (fun a hk => ?_)
 refine wpIn_seq ?_;refine wpIn_region_lit ?_
 refine st_box hk hS ?_;clear hk hS a;intro w b2 hS a hk
 refine st_box hk hS ?_;clear hk hS a;intro w b3 hS a hk
 rcases ho with ⟨rfl, hn⟩ | rfl | rfl
 ·have e : doO D (1, o2, o3, o4, o5, o6) = if D.next ≠ o2 then (D, 1) else ((elemP D o5).1, (elemP D o5).2.2) := by unfold doO;rw [if_pos rfl]
  rw [e]
  (repeat' (first|((first|refine wx1 ?_|refine wx2 ?_ ?_<;>intro hp|refine s_end hk ?_)<;>(clear hk a;intro a hk))|((first|refine wx3 ?_;intro w b|refine wx4 ?_;intro w|refine wx5 ?_;intro w v);clear hk hS a;intro hS a hk)|refine wx0 ?_|fail))
  refine sg hk (g_callO hk (hf := by kernel_rfl) (hc := made_any (b2 := b2) (b3 := b3) (bd := bd) (D := D) 61 (by kernel_rfl) o2 (fun w h => do1_any (L := L) (1, o2, o3, o4, o5, o6) hW hb hK hn h) (hS.sub (L' := domH bd D :: opL b2 b3 bd (1, o2, o3, o4, o5, o6) L) (.cons atx (.cons atx (.cons atx sbx))))) (h := ?_));clear hk hS a;intro v w hS a hk
  by_cases hx : D.next = o2
  ·rw [if_neg (fun h => h hx)] at hS ⊢
   obtain ⟨rfl, hS⟩ := hS
   (repeat' (first|((first|refine wx1 ?_|refine wx2 ?_ ?_<;>intro hp|refine s_end hk ?_)<;>(clear hk a;intro a hk))|((first|refine wx3 ?_;intro w b|refine wx4 ?_;intro w|refine wx5 ?_;intro w v);clear hk hS a;intro hS a hk)|refine wx0 ?_|fail))
   exact done1 hk (h := ⟨rfl, hS.sub (.cons atx sbx)⟩)
  ·rw [if_pos hx] at hS ⊢
   obtain ⟨rfl, hS⟩ := hS
   (repeat' (first|((first|refine wx1 ?_|refine wx2 ?_ ?_<;>intro hp|refine s_end hk ?_)<;>(clear hk a;intro a hk))|((first|refine wx3 ?_;intro w b|refine wx4 ?_;intro w|refine wx5 ?_;intro w v);clear hk hS a;intro hS a hk)|refine wx0 ?_|fail))
   exact done1 hk (h := ⟨rfl, hS.sub (.cons atx sbx)⟩)
 ·have e : doO D (2, o2, o3, o4, o5, o6) = if D.next ≠ o2 then (D, 1) else ((textP D o6).1, (textP D o6).2.2) := by unfold doO;rw [if_neg (show ¬ ((2 : Int) = 1) by decide), if_pos rfl]
  rw [e]
  (repeat' (first|((first|refine wx1 ?_|refine wx2 ?_ ?_<;>intro hp|refine s_end hk ?_)<;>(clear hk a;intro a hk))|((first|refine wx3 ?_;intro w b|refine wx4 ?_;intro w|refine wx5 ?_;intro w v);clear hk hS a;intro hS a hk)|refine wx0 ?_|fail))
  refine sg hk (g_callO hk (hf := by kernel_rfl) (hc := made_any (b2 := b2) (b3 := b3) (bd := bd) (D := D) 62 (by kernel_rfl) o2 (fun w h => do2_any (L := L) (2, o2, o3, o4, o5, o6) hW hb hK h) (hS.sub (L' := domH bd D :: opL b2 b3 bd (2, o2, o3, o4, o5, o6) L) (.cons atx (.cons atx (.cons atx sbx))))) (h := ?_));clear hk hS a;intro v w hS a hk
  by_cases hx : D.next = o2
  ·rw [if_neg (fun h => h hx)] at hS ⊢
   obtain ⟨rfl, hS⟩ := hS
   (repeat' (first|((first|refine wx1 ?_|refine wx2 ?_ ?_<;>intro hp|refine s_end hk ?_)<;>(clear hk a;intro a hk))|((first|refine wx3 ?_;intro w b|refine wx4 ?_;intro w|refine wx5 ?_;intro w v);clear hk hS a;intro hS a hk)|refine wx0 ?_|fail))
   exact done1 hk (h := ⟨rfl, hS.sub (.cons atx sbx)⟩)
  ·rw [if_pos hx] at hS ⊢
   obtain ⟨rfl, hS⟩ := hS
   (repeat' (first|((first|refine wx1 ?_|refine wx2 ?_ ?_<;>intro hp|refine s_end hk ?_)<;>(clear hk a;intro a hk))|((first|refine wx3 ?_;intro w b|refine wx4 ?_;intro w|refine wx5 ?_;intro w v);clear hk hS a;intro hS a hk)|refine wx0 ?_|fail))
   exact done1 hk (h := ⟨rfl, hS.sub (.cons atx sbx)⟩)
 ·have e : doO D (3, o2, o3, o4, o5, o6) = insP D o2 o3 o4 := by unfold doO;rw [if_neg (show ¬ ((3 : Int) = 1) by decide), if_neg (show ¬ ((3 : Int) = 2) by decide)]
  rw [e]
  (repeat' (first|((first|refine wx1 ?_|refine wx2 ?_ ?_<;>intro hp|refine s_end hk ?_)<;>(clear hk a;intro a hk))|((first|refine wx3 ?_;intro w b|refine wx4 ?_;intro w|refine wx5 ?_;intro w v);clear hk hS a;intro hS a hk)|refine wx0 ?_|fail))
  refine sg hk (g_callO hk (hf := by kernel_rfl) (hc := ins5_any o2 o3 o4 hW hb hK (hS.sub (L' := domH bd D :: L) (.cons atx sbx))) (h := ?_));clear hk hS a;rintro _ w ⟨rfl, hS⟩ a hk
  (repeat' (first|((first|refine wx1 ?_|refine wx2 ?_ ?_<;>intro hp|refine s_end hk ?_)<;>(clear hk a;intro a hk))|((first|refine wx3 ?_;intro w b|refine wx4 ?_;intro w|refine wx5 ?_;intro w v);clear hk hS a;intro hS a hk)|refine wx0 ?_|fail))
  exact done1 hk (h := ⟨rfl, hS⟩)
set_option maxHeartbeats 8000000 in
theorem replay6_any {D' : DomP} (ops : List OpP) (v : Value) (hW : WfD D) (hb : Bnd 0 D) (hrun : runO D ops = some D') (hok : OpsK ops) (hl : ops.length ≤ 700) (hS : St B (domH bd D :: OwT 97 ops v :: L) w) :
  Calls Tryz.prog 15 #[pA bd, v] w (Ret fun r w' => r = .tuple #[.int .i64 ops.length, .int .i64 0] ∧ St B (domH bd D' :: OwT 97 ops v :: L) w') := by
 have hsl : SlT ops v w := OwT.rd (hS.rd (A := OwT 97 ops v) atx)
 refine enter Tryz.func15 rfl Tryz.ntmps15 rfl (fun a hk => ?_)
 (repeat' (first|((first|refine wx1 ?_|refine wx2 ?_ ?_<;>intro hp|refine s_end hk ?_)<;>(clear hk a;intro a hk))|((first|refine wx3 ?_;intro w b|refine wx4 ?_;intro w|refine wx5 ?_;intro w v);clear hk hS a;intro hS a hk)|refine wx0 ?_|fail))
 clear hsl
 replace hk := Kn.kp [0, 1, 9, 10, 11] hk
 refine wp_for ops.length (fun i _ => [(11, .int .i64 (i : Int))]) (fun i Di => domH bd Di :: OwT 97 ops v :: L) (fun i Di => runO D (ops.take i) = some Di ∧ WfD Di ∧ Bnd i Di) D hk skx hS ⟨rfl, hW, hb⟩ ?_
 clear hk hS a
 rintro i Di a w hi hk hS ⟨hr, hWi, hbi⟩
 have hsl : SlT ops v w := OwT.rd (hS.rd (A := OwT 97 ops v) atx)
 by_cases hil : i < ops.length
 ·obtain ⟨⟨o1, o2, o3, o4, o5, o6⟩, hx⟩ : ∃ x, ops[i]? = some x := ⟨_, List.getElem?_eq_getElem hil⟩
  obtain ⟨s1, s2⟩ := runO_step hrun hx hr
  obtain ⟨w1, w2⟩ := doO_ok hWi hbi (o1, o2, o3, o4, o5, o6)
  have ho := hok _ (List.mem_of_getElem? hx)
  (repeat' (first|((first|refine wx1 ?_|refine wx2 ?_ ?_<;>intro hp|refine s_end hk ?_)<;>(clear hk a;intro a hk))|((first|refine wx3 ?_;intro w b|refine wx4 ?_;intro w|refine wx5 ?_;intro w v);clear hk hS a;intro hS a hk)|refine wx0 ?_|fail))
  refine sg hk (g_callO hk (hf := by kernel_rfl) (hc := do6_any (o1, o2, o3, o4, o5, o6) hWi hbi (by omega) ho (hS.sub (L' := domH bd Di :: OwT 97 ops v :: L) (.cons atx (.cons atx sbx)))) (h := ?_));clear hk hS a hsl;rintro _ w ⟨rfl, hS⟩ a hk
  rw [s1] at hk
  (repeat' (first|((first|refine wx1 ?_|refine wx2 ?_ ?_<;>intro hp|refine s_end hk ?_)<;>(clear hk a;intro a hk))|((first|refine wx3 ?_;intro w b|refine wx4 ?_;intro w|refine wx5 ?_;intro w v);clear hk hS a;intro hS a hk)|refine wx0 ?_|fail))
  exact ⟨hil, _, hk.sd, hS, s2, w1, w2⟩
 ·have hii : i = ops.length := by omega
  subst hii
  rw [List.take_length, hrun] at hr
  cases hr
  (repeat' (first|((first|refine wx1 ?_|refine wx2 ?_ ?_<;>intro hp|refine s_end hk ?_)<;>(clear hk a;intro a hk))|((first|refine wx3 ?_;intro w b|refine wx4 ?_;intro w|refine wx5 ?_;intro w v);clear hk hS a;intro hS a hk)|refine wx0 ?_|fail))
  exact done2 hk (h := ⟨rfl, hS⟩)
end
end Go.Proofs.YtnjmonkehjlaoaaGreatDoor
namespace Go.Proofs.YtnjmonkehjlaoaaGreatDoor
def scanN (p : UInt8 → Bool) (s : ByteArray) : Nat → Nat → Nat
 | 0, i => i
 | n + 1, i => if h : i < s.size then (if p s[i] = true then scanN p s n (i + 1) else i) else i
def scan (p : UInt8 → Bool) (s : ByteArray) (i : Nat) : Nat := scanN p s (s.size - i) i
theorem scan_yes {p : UInt8 → Bool} {s : ByteArray} {i : Nat} (h : i < s.size) (hp : p s[i] = true) : scan p s i = scan p s (i + 1) := by
 unfold scan
 rw [show s.size - i = (s.size - (i + 1)) + 1 by omega, scanN, dif_pos h, if_pos hp]
theorem scan_no {p : UInt8 → Bool} {s : ByteArray} {i : Nat} (h : i < s.size) (hp : ¬ p s[i] = true) : scan p s i = i := by
 unfold scan
 rw [show s.size - i = (s.size - (i + 1)) + 1 by omega, scanN, dif_pos h, if_neg hp]
theorem scan_end {p : UInt8 → Bool} {s : ByteArray} {i : Nat} (h : ¬ i < s.size) : scan p s i = i := by
 unfold scan
 rw [show s.size - i = 0 by omega, scanN]
theorem scan_ge (p : UInt8 → Bool) (s : ByteArray) : ∀ (n i : Nat), s.size - i ≤ n → i ≤ scan p s i
 | 0, i, hn => by rw [scan_end (by omega)];exact Nat.le_refl _
 | n + 1, i, hn => by
  by_cases h : i < s.size
  ·by_cases hp : p s[i] = true
   ·rw [scan_yes h hp];exact Nat.le_trans (Nat.le_succ i) (scan_ge p s n (i + 1) (by omega))
   ·rw [scan_no h hp];exact Nat.le_refl _
  ·rw [scan_end h];exact Nat.le_refl _
theorem scan_le (p : UInt8 → Bool) (s : ByteArray) : ∀ (n i : Nat), s.size - i ≤ n → i ≤ s.size → scan p s i ≤ s.size
 | 0, i, hn, hi => by rw [scan_end (by omega)];exact hi
 | n + 1, i, hn, hi => by
  by_cases h : i < s.size
  ·by_cases hp : p s[i] = true
   ·rw [scan_yes h hp];exact scan_le p s n (i + 1) (by omega) (by omega)
   ·rw [scan_no h hp];exact hi
  ·rw [scan_end h];exact hi
theorem scan_stop (p : UInt8 → Bool) (s : ByteArray) : ∀ (n i : Nat), s.size - i ≤ n → (h : scan p s i < s.size) → ¬ p s[scan p s i] = true
 | 0, i, hn, h => by
  have e := scan_end (p := p) (s := s) (i := i) (by omega)
  rw [e] at h
  omega
 | n + 1, i, hn, h => by
  by_cases hi : i < s.size
  ·by_cases hp : p s[i] = true
   ·have e := scan_yes hi hp
    have := scan_stop p s n (i + 1) (by omega) (by rw [← e];exact h)
    simp only [e]
    exact this
   ·simp only [scan_no hi hp]
    exact hp
  ·rw [scan_end hi] at h
   exact absurd h hi
def blkB (b : UInt8) : Bool := decide (b.toNat = 32)
def nqB (b : UInt8) : Bool := !decide (b.toNat = 39)
structure Tok where
 kind : Nat
 at_ : Nat
 txt : ByteArray
 till : Nat
deriving DecidableEq
def priL (b : UInt8) : Bool := decide (32 ≤ b.toNat ∧ b.toNat ≤ 126)
def tokF (s : ByteArray) (i : Nat) : Tok :=
 let j := scan blkB s i
 if h : j < s.size then
  if s[j].toNat = 40 then ⟨1, j, ⟨#[]⟩, j + 1⟩
  else if s[j].toNat = 41 then ⟨2, j, ⟨#[]⟩, j + 1⟩
  else if s[j].toNat = 39 then
   let e := scan nqB s (j + 1)
   if e < s.size ∧ (s.extract (j + 1) e).data.toList.all priL = true then ⟨3, j, s.extract (j + 1) e, e + 1⟩ else ⟨5, j, ⟨#[]⟩, j⟩
  else if visB s[j] = true then ⟨4, j, s.extract j (scan visB s j), scan visB s j⟩
  else ⟨5, j, ⟨#[]⟩, j⟩
 else ⟨0, s.size, ⟨#[]⟩, s.size⟩
structure Itm where
 k : Int
 tag : ByteArray
 key : ByteArray
 cl : List ByteArray
 al : List (ByteArray × ByteArray)
 sl : List (ByteArray × Int)
 o : Opt
def cutE (w : ByteArray) : Option (ByteArray × ByteArray) :=
 let j := scan (fun b => !decide (b.toNat = 61)) w 0
 if j < w.size then some (w.extract 0 j, w.extract (j + 1) w.size) else none
def nmE (w : ByteArray) : ByteArray := match cutE w with
 | some (a, _) => a
 | none => w
def whatF (w : ByteArray) : Option ByteArray :=
 match w.data.toList with
 | 46 :: _ => none
 | 35 :: _ => some ⟨#[35]⟩
 | 64 :: _ => some (nmE w)
 | 33 :: _ => if w = ⟨#[33, 103, 114, 111, 117, 112]⟩ ∨ w = ⟨#[33, 115, 108, 111, 116]⟩ then some ⟨#[33, 107, 105, 110, 100]⟩
   else if w = ⟨#[33, 111, 117, 116, 45, 105, 110]⟩ ∨ w = ⟨#[33, 105, 110, 45, 111, 117, 116]⟩ then some ⟨#[33, 109, 111, 100, 101]⟩ else some (nmE w)
 | _ => some (⟨#[61]⟩ ++ nmE w)
def wGroup : ByteArray := ⟨#[33, 103, 114, 111, 117, 112]⟩
def wSlot : ByteArray := ⟨#[33, 115, 108, 111, 116]⟩
def wOutIn : ByteArray := ⟨#[33, 111, 117, 116, 45, 105, 110]⟩
def wInOut : ByteArray := ⟨#[33, 105, 110, 45, 111, 117, 116]⟩
def wAppear : ByteArray := ⟨#[33, 97, 112, 112, 101, 97, 114]⟩
def wMoves : ByteArray := ⟨#[33, 109, 111, 118, 101, 115]⟩
def wEnter : ByteArray := ⟨#[33, 101, 110, 116, 101, 114]⟩
def wLeave : ByteArray := ⟨#[33, 108, 101, 97, 118, 101]⟩
def wMove : ByteArray := ⟨#[33, 109, 111, 118, 101]⟩
def addF (n : Itm) (w : ByteArray) : Option Itm :=
  match w.data.toList with
  | [] => none
  | c :: _ =>
    let rest := w.extract 1 w.size
    if c.toNat = 35 then (if keyS rest = true then some { n with key := rest } else none)
    else if c.toNat = 46 then (if nameS rest = true then some { n with cl := n.cl ++ [rest] } else none)
    else if c.toNat = 64 then (match cutE rest with
      | some (a, v) => if nameS a = true ∧ valS v = true then some { n with al := n.al ++ [(a, v)] } else none
      | none => none)
    else if c.toNat = 33 then
      if w = wGroup then some { n with k := 3 }
      else if w = wSlot then some { n with k := 4 }
      else if w = wOutIn then some { n with o := (n.o.1, n.o.2.1, n.o.2.2.1, 1, n.o.2.2.2.2.1, n.o.2.2.2.2.2) }
      else if w = wInOut then some { n with o := (n.o.1, n.o.2.1, n.o.2.2.1, 2, n.o.2.2.2.2.1, n.o.2.2.2.2.2) }
      else if w = wAppear then some { n with o := (n.o.1, n.o.2.1, n.o.2.2.1, n.o.2.2.2.1, true, n.o.2.2.2.2.2) }
      else if w = wMoves then some { n with o := (n.o.1, n.o.2.1, n.o.2.2.1, n.o.2.2.2.1, n.o.2.2.2.2.1, true) }
      else (match cutE w with
        | some (a, v) => if (numP v.data.toList).2 = true then
            (if a = wEnter then some { n with o := ((numP v.data.toList).1, n.o.2.1, n.o.2.2.1, n.o.2.2.2.1, n.o.2.2.2.2.1, n.o.2.2.2.2.2) }
             else if a = wLeave then some { n with o := (n.o.1, (numP v.data.toList).1, n.o.2.2.1, n.o.2.2.2.1, n.o.2.2.2.2.1, n.o.2.2.2.2.2) }
             else if a = wMove then some { n with o := (n.o.1, n.o.2.1, (numP v.data.toList).1, n.o.2.2.2.1, n.o.2.2.2.2.1, n.o.2.2.2.2.2) }
             else none) else none
        | none => none)
    else (match cutE w with
      | some (a, v) => if nameS a = true ∧ (numP v.data.toList).2 = true then some { n with sl := n.sl ++ [(a, (numP v.data.toList).1)] } else none
      | none => none)
def itemF (n : Itm) (w : ByteArray) (seen : List ByteArray) : Option (Itm × List ByteArray) :=
 match addF n w with
 | none => none
 | some m => match whatF w with
  | none => some (m, seen)
  | some x => if seen.any (fun y => decide (y = x)) = true then none else some (m, seen ++ [x])
def Itm.tree (n : Itm) (kids : List Tree) : Tree := .mk n.k n.tag n.key ⟨#[]⟩ n.cl n.al n.sl n.o kids
abbrev o0 : Opt := (0, 0, 0, 0, false, false)
inductive Rd (α : Type) where
 | ok (x : α) (at_ : Nat)
 | no (at_ : Nat) (e : Int)
mutual
def viewF (s : ByteArray) : Nat → Nat → Nat → Rd Tree
 | 0, i, _ => .no i 0
 | f + 1, i, op =>
  let t := tokF s i
  if t.kind = 3 then .ok (.mk 1 ⟨#[]⟩ ⟨#[]⟩ t.txt [] [] [] o0 []) t.till
  else if t.kind = 1 then
   if 40 ≤ op then .no t.at_ 7
   else
    let g := tokF s t.till
    if g.kind = 4 ∧ nameS g.txt = true then elemF s f g.till (op + 1) ⟨2, g.txt, ⟨#[]⟩, [], [], [], o0⟩ [] []
    else .no g.at_ 2
  else .no t.at_ 2
def elemF (s : ByteArray) : Nat → Nat → Nat → Itm → List ByteArray → List Tree → Rd Tree
 | 0, i, _, _, _, _ => .no i 0
 | f + 1, i, op, n, seen, kids =>
  let t := tokF s i
  if t.kind = 2 then .ok (n.tree kids) t.till
  else if t.kind = 4 then
   match itemF n t.txt seen with
   | some (m, more) => elemF s f t.till op m more kids
   | none => .no t.at_ 2
  else
   match viewF s f i op with
   | .ok k j => elemF s f j op n seen (kids ++ [k])
   | .no a e => .no a e
end
def parseF (s : ByteArray) : Rd Tree :=
 if 20000 < s.size then .no 0 3
 else match viewF s (2 * s.size + 2) 0 0 with
  | .ok n j => if (tokF s j).kind = 0 then .ok n 0 else .no (tokF s j).at_ 2
  | .no a e => .no a e
end Go.Proofs.YtnjmonkehjlaoaaGreatDoor
namespace Go.Proofs.YtnjmonkehjlaoaaGreatDoor
theorem tok_at (s : ByteArray) (i : Nat) : (tokF s i).kind ≠ 0 → scan blkB s i < s.size := by
 unfold tokF
 simp only
 split
 ·intro _;assumption
 ·intro h;exact absurd rfl h
theorem tok_till {s : ByteArray} {i : Nat} (h0 : (tokF s i).kind ≠ 0) (h5 : (tokF s i).kind ≠ 5) : i < (tokF s i).till ∧ (tokF s i).till ≤ s.size := by
 have hj := tok_at s i h0
 have hij := scan_ge blkB s _ i (Nat.le_refl _)
 by_cases n1 : s[scan blkB s i].toNat = 40
 ·have e : tokF s i = ⟨1, scan blkB s i, ⟨#[]⟩, scan blkB s i + 1⟩ := by unfold tokF;simp only [hj, dif_pos];rw [if_pos n1]
  rw [e];exact ⟨by show i < _ + 1;omega, by show _ + 1 ≤ _;omega⟩
 ·by_cases n2 : s[scan blkB s i].toNat = 41
  ·have e : tokF s i = ⟨2, scan blkB s i, ⟨#[]⟩, scan blkB s i + 1⟩ := by unfold tokF;simp only [hj, dif_pos];rw [if_neg n1, if_pos n2]
   rw [e];exact ⟨by show i < _ + 1;omega, by show _ + 1 ≤ _;omega⟩
  ·by_cases n3 : s[scan blkB s i].toNat = 39
   ·by_cases n4 : scan nqB s (scan blkB s i + 1) < s.size ∧ (s.extract (scan blkB s i + 1) (scan nqB s (scan blkB s i + 1))).data.toList.all priL = true
    ·have e : tokF s i = ⟨3, scan blkB s i, s.extract (scan blkB s i + 1) (scan nqB s (scan blkB s i + 1)), scan nqB s (scan blkB s i + 1) + 1⟩ := by unfold tokF;simp only [hj, dif_pos];rw [if_neg n1, if_neg n2, if_pos n3, if_pos n4]
     have := scan_ge nqB s _ (scan blkB s i + 1) (Nat.le_refl _)
     rw [e];exact ⟨by show i < _ + 1;omega, by show _ + 1 ≤ _;omega⟩
    ·have e : tokF s i = ⟨5, scan blkB s i, ⟨#[]⟩, scan blkB s i⟩ := by unfold tokF;simp only [hj, dif_pos];rw [if_neg n1, if_neg n2, if_pos n3, if_neg n4]
     rw [e] at h5;exact absurd rfl h5
   ·by_cases n4 : visB s[scan blkB s i] = true
    ·have e : tokF s i = ⟨4, scan blkB s i, s.extract (scan blkB s i) (scan visB s (scan blkB s i)), scan visB s (scan blkB s i)⟩ := by unfold tokF;simp only [hj, dif_pos];rw [if_neg n1, if_neg n2, if_neg n3, if_pos n4]
     have e1 := scan_yes hj n4
     have h1 := scan_ge visB s _ (scan blkB s i + 1) (Nat.le_refl _)
     have h2 := scan_le visB s _ (scan blkB s i) (Nat.le_refl _) (by omega)
     rw [e];exact ⟨by show i < scan visB s (scan blkB s i);omega, h2⟩
    ·have e : tokF s i = ⟨5, scan blkB s i, ⟨#[]⟩, scan blkB s i⟩ := by unfold tokF;simp only [hj, dif_pos];rw [if_neg n1, if_neg n2, if_neg n3, if_neg n4]
     rw [e] at h5;exact absurd rfl h5
def toksL (s : ByteArray) (i : Nat) : List Tok :=
 if _h : (tokF s i).kind = 0 ∨ (tokF s i).kind = 5 then [tokF s i] else tokF s i :: toksL s (tokF s i).till
termination_by s.size - i
decreasing_by
 have := tok_till (s := s) (i := i) (fun e => _h (.inl e)) (fun e => _h (.inr e))
 omega
theorem toks_end {s : ByteArray} {i : Nat} (h : (tokF s i).kind = 0 ∨ (tokF s i).kind = 5) : toksL s i = [tokF s i] := by rw [toksL, dif_pos h]
theorem toks_more {s : ByteArray} {i : Nat} (h0 : (tokF s i).kind ≠ 0) (h5 : (tokF s i).kind ≠ 5) : toksL s i = tokF s i :: toksL s (tokF s i).till := by
 rw [toksL, dif_neg (fun h => h.elim h0 h5)]
theorem toks_ne (s : ByteArray) (i : Nat) : ∃ r, toksL s i = tokF s i :: r := by
 by_cases h : (tokF s i).kind = 0 ∨ (tokF s i).kind = 5
 ·exact ⟨[], toks_end h⟩
 ·exact ⟨_, toks_more (fun e => h (.inl e)) (fun e => h (.inr e))⟩
def TokAt (l : List Tok) (j : Nat) (s : ByteArray) (p : Nat) : Prop := l.drop j = toksL s p
theorem view_pos (s : ByteArray) : ∀ (f : Nat), (∀ (i op : Nat) (t : Tree) (j : Nat), viewF s f i op = .ok t j → i < j ∧ j ≤ s.size) ∧
  (∀ (i op : Nat) (n : Itm) (seen : List ByteArray) (kids : List Tree) (t : Tree) (j : Nat), elemF s f i op n seen kids = .ok t j → i < j ∧ j ≤ s.size)
 | 0 => ⟨fun i op t j h => by simp [viewF] at h, fun i op n seen kids t j h => by simp [elemF] at h⟩
 | f + 1 => by
  obtain ⟨hv, he⟩ := view_pos s f
  refine ⟨fun i op t j h => ?_, fun i op n seen kids t j h => ?_⟩
  ·simp only [viewF] at h
   split at h
   ·rename_i h3
    obtain ⟨h1, h2⟩ := tok_till (s := s) (i := i) (by omega) (by omega)
    injection h with _ h
    omega
   ·split at h
    ·rename_i h1
     obtain ⟨k1, k2⟩ := tok_till (s := s) (i := i) (by omega) (by omega)
     split at h
     ·cases h
     ·split at h
      ·rename_i hg
       obtain ⟨g1, g2⟩ := tok_till (s := s) (i := (tokF s i).till) (by omega) (by omega)
       have := he _ _ _ _ _ _ _ h
       omega
      ·cases h
    ·cases h
  ·simp only [elemF] at h
   split at h
   ·rename_i h3
    obtain ⟨h1, h2⟩ := tok_till (s := s) (i := i) (by omega) (by omega)
    injection h with _ h
    omega
   ·split at h
    ·rename_i h4
     obtain ⟨k1, k2⟩ := tok_till (s := s) (i := i) (by omega) (by omega)
     split at h
     ·have := he _ _ _ _ _ _ _ h
      omega
     ·cases h
    ·split at h
     ·rename_i k j' hk
      have h1 := hv _ _ _ _ hk
      have h2 := he _ _ _ _ _ _ _ h
      omega
     ·cases h
end Go.Proofs.YtnjmonkehjlaoaaGreatDoor
namespace Go.Proofs.YtnjmonkehjlaoaaGreatDoor
theorem scan_idem (p : UInt8 → Bool) (s : ByteArray) (i : Nat) : scan p s (scan p s i) = scan p s i := by
 by_cases hj : scan p s i < s.size
 ·exact scan_no hj (scan_stop p s _ i (Nat.le_refl _) hj)
 ·exact scan_end hj
theorem tok_scan (s : ByteArray) (i : Nat) : tokF s (scan blkB s i) = tokF s i := by unfold tokF; rw [scan_idem]
theorem tok_e {s : ByteArray} {i : Nat} (h : ¬ scan blkB s i < s.size) : tokF s i = ⟨0, s.size, ⟨#[]⟩, s.size⟩ := by
 unfold tokF;simp only;rw [dif_neg h]
theorem tok_1 {s : ByteArray} {i : Nat} (hj : scan blkB s i < s.size) (n1 : s[scan blkB s i].toNat = 40) : tokF s i = ⟨1, scan blkB s i, ⟨#[]⟩, scan blkB s i + 1⟩ := by
 unfold tokF;simp only [hj, dif_pos];rw [if_pos n1]
theorem tok_2 {s : ByteArray} {i : Nat} (hj : scan blkB s i < s.size) (n2 : s[scan blkB s i].toNat = 41) : tokF s i = ⟨2, scan blkB s i, ⟨#[]⟩, scan blkB s i + 1⟩ := by
 unfold tokF;simp only [hj, dif_pos];rw [if_neg (by omega), if_pos n2]
theorem tok_3 {s : ByteArray} {i : Nat} (hj : scan blkB s i < s.size) (n3 : s[scan blkB s i].toNat = 39)
  (n4 : scan nqB s (scan blkB s i + 1) < s.size ∧ (s.extract (scan blkB s i + 1) (scan nqB s (scan blkB s i + 1))).data.toList.all priL = true) :
  tokF s i = ⟨3, scan blkB s i, s.extract (scan blkB s i + 1) (scan nqB s (scan blkB s i + 1)), scan nqB s (scan blkB s i + 1) + 1⟩ := by
 unfold tokF;simp only [hj, dif_pos];rw [if_neg (by omega), if_neg (by omega), if_pos n3, if_pos n4]
theorem tok_5 {s : ByteArray} {i : Nat} (hj : scan blkB s i < s.size) (n3 : s[scan blkB s i].toNat = 39)
  (n4 : ¬ (scan nqB s (scan blkB s i + 1) < s.size ∧ (s.extract (scan blkB s i + 1) (scan nqB s (scan blkB s i + 1))).data.toList.all priL = true)) :
  tokF s i = ⟨5, scan blkB s i, ⟨#[]⟩, scan blkB s i⟩ := by
 unfold tokF;simp only [hj, dif_pos];rw [if_neg (by omega), if_neg (by omega), if_pos n3, if_neg n4]
theorem tok_4 {s : ByteArray} {i : Nat} (hj : scan blkB s i < s.size) (hv : visB s[scan blkB s i] = true) : tokF s i = ⟨4, scan blkB s i, s.extract (scan blkB s i) (scan visB s (scan blkB s i)), scan visB s (scan blkB s i)⟩ := by
 have h2 := hv
 unfold visB at h2
 rw [decide_eq_true_eq] at h2
 unfold tokF;simp only [hj, dif_pos];rw [if_neg (by omega), if_neg (by omega), if_neg (by omega), if_pos hv]
theorem tok_6 {s : ByteArray} {i : Nat} (hj : scan blkB s i < s.size) (n1 : s[scan blkB s i].toNat ≠ 40) (n2 : s[scan blkB s i].toNat ≠ 41) (n3 : s[scan blkB s i].toNat ≠ 39) (hv : ¬ visB s[scan blkB s i] = true) : tokF s i = ⟨5, scan blkB s i, ⟨#[]⟩, scan blkB s i⟩ := by
 unfold tokF;simp only [hj, dif_pos];rw [if_neg n1, if_neg n2, if_neg n3, if_neg hv]
theorem tok_word {s : ByteArray} {i : Nat} (h : scan blkB s i < scan visB s (scan blkB s i)) : tokF s i = ⟨4, scan blkB s i, s.extract (scan blkB s i) (scan visB s (scan blkB s i)), scan visB s (scan blkB s i)⟩ := by
 by_cases hj : scan blkB s i < s.size
 ·by_cases hv : visB s[scan blkB s i] = true
  ·exact tok_4 hj hv
  ·rw [scan_no hj hv] at h;omega
 ·rw [scan_end hj] at h;omega
theorem tok_noword {s : ByteArray} {i : Nat} (hi : i ≤ s.size) (h : scan visB s (scan blkB s i) = scan blkB s i) : (tokF s i).kind ≠ 4 ∧ (tokF s i).at_ = scan blkB s i := by
 by_cases hj : scan blkB s i < s.size
 ·have hv : ¬ visB s[scan blkB s i] = true := fun hv => by
   rw [scan_yes hj hv] at h
   have := scan_ge visB s _ (scan blkB s i + 1) (Nat.le_refl _)
   omega
  by_cases n1 : s[scan blkB s i].toNat = 40
  ·rw [tok_1 hj n1];exact ⟨by show (1 : Nat) ≠ 4;decide, rfl⟩
  ·by_cases n2 : s[scan blkB s i].toNat = 41
   ·rw [tok_2 hj n2];exact ⟨by show (2 : Nat) ≠ 4;decide, rfl⟩
   ·by_cases n3 : s[scan blkB s i].toNat = 39
    ·by_cases n4 : scan nqB s (scan blkB s i + 1) < s.size ∧ (s.extract (scan blkB s i + 1) (scan nqB s (scan blkB s i + 1))).data.toList.all priL = true
     ·rw [tok_3 hj n3 n4];exact ⟨by show (3 : Nat) ≠ 4;decide, rfl⟩
     ·rw [tok_5 hj n3 n4];exact ⟨by show (5 : Nat) ≠ 4;decide, rfl⟩
    ·rw [tok_6 hj n1 n2 n3 hv];exact ⟨by show (5 : Nat) ≠ 4;decide, rfl⟩
 ·have h1 := scan_le blkB s _ i (Nat.le_refl _) hi
  rw [tok_e hj];exact ⟨by show (0 : Nat) ≠ 4;decide, by show s.size = _;omega⟩
end Go.Proofs.YtnjmonkehjlaoaaGreatDoor
namespace Go.Proofs.YtnjmonkehjlaoaaGreatDoor
open Go
abbrev notB (c : UInt8) : UInt8 → Bool := fun b => !decide (b.toNat = c.toNat)
theorem drop_cons {s : ByteArray} {i : Nat} (hi : i < s.size) : s.data.toList.drop i = s[i] :: s.data.toList.drop (i + 1) := by
 have hl : i < s.data.toList.length := by simpa using hi
 rw [List.drop_eq_getElem_cons hl]
 congr 1
theorem idx_scan (c : UInt8) (s : ByteArray) : ∀ (n i : Nat), s.size - i ≤ n → i ≤ s.size → Lib.indexByte (s.data.toList.drop i) c = if scan (notB c) s i < s.size then ((scan (notB c) s i : Nat) : Int) - i else -1
 | n, i, hn, hi => by
  by_cases hl : i < s.size
  ·rw [drop_cons hl, Lib.indexByte]
   by_cases hc : s[i].toNat = c.toNat
   ·have e : s[i] = c := UInt8.toNat_inj.1 hc
    rw [scan_no hl (by simp [notB, hc]), if_pos (by rw [e];exact beq_self_eq_true c), if_pos hl];omega
   ·have e : (s[i] == c) = false := by
     cases h : (s[i] == c) with
     | false => rfl
     | true => exact absurd (by rw [eq_of_beq h]) hc
    match n, hn with
    | 0, hn => omega
    | n + 1, hn =>
     have ih := idx_scan c s n (i + 1) (by omega) (by omega)
     rw [e, if_neg (by decide), scan_yes hl (by simp [notB, hc]), ih]
     have hge := scan_ge (notB c) s _ (i + 1) (Nat.le_refl _)
     by_cases hs : scan (notB c) s (i + 1) < s.size
     ·rw [if_pos hs, if_pos hs, if_neg (by simp;omega)];omega
     ·rw [if_neg hs, if_neg hs, if_pos (by decide)]
  ·rw [scan_end hl, if_neg hl, List.drop_eq_nil_of_le (by simp;omega)];rfl
def cutR (c : UInt8) (s : ByteArray) : ByteArray × ByteArray × Bool :=
 if scan (notB c) s 0 < s.size then (s.extract 0 (scan (notB c) s 0), s.extract (scan (notB c) s 0 + 1) s.size, true) else (s, ⟨#[]⟩, false)
theorem cutR_eq (w : ByteArray) : cutE w = if (cutR 61 w).2.2 = true then some ((cutR 61 w).1, (cutR 61 w).2.1) else none := by
 unfold cutE cutR
 show (if scan (notB 61) w 0 < w.size then _ else _) = _
 by_cases h : scan (notB 61) w 0 < w.size
 ·rw [if_pos h, if_pos h];rfl
 ·rw [if_neg h, if_neg h];rfl
theorem cutR_nm (w : ByteArray) : nmE w = (cutR 61 w).1 := by
 unfold nmE
 rw [cutR_eq]
 unfold cutR
 by_cases h : scan (notB 61) w 0 < w.size
 ·rw [if_pos h];rfl
 ·rw [if_neg h];rfl
theorem cut_le (c : UInt8) (s : ByteArray) : (cutR c s).1.size ≤ s.size ∧ (cutR c s).2.1.size ≤ s.size := by
 unfold cutR
 split
 ·simp only [ByteArray.size_extract];omega
 ·exact ⟨Nat.le_refl _, by show (0 : Nat) ≤ _;omega⟩
theorem ext_get {s : ByteArray} {k i : Nat} (h : i < (s.extract k s.size).size) : (s.extract k s.size)[i] = s[k + i]'(by rw [ByteArray.size_extract] at h; omega) := by
 rw [ByteArray.getElem_extract]
theorem scan_ext (p : UInt8 → Bool) (s : ByteArray) (k : Nat) (hk : k ≤ s.size) : ∀ (n i : Nat), s.size - k - i ≤ n → scan p (s.extract k s.size) i + k = scan p s (k + i)
 | n, i, hn => by
  have hz : (s.extract k s.size).size = s.size - k := by rw [ByteArray.size_extract];omega
  by_cases hl : k + i < s.size
  ·have hl' : i < (s.extract k s.size).size := by omega
   by_cases hp : p s[k + i] = true
   ·match n, hn with
    | 0, hn => omega
    | n + 1, hn =>
     rw [scan_yes hl hp, scan_yes hl' (by rw [ext_get hl'];exact hp), scan_ext p s k hk n (i + 1) (by omega)];rfl
   ·rw [scan_no hl hp, scan_no hl' (by rw [ext_get hl'];exact hp)];omega
  ·rw [scan_end hl, scan_end (by omega)];omega
theorem ext_ext (s : ByteArray) (k m : Nat) (hk : k + m ≤ s.size) : (s.extract k s.size).extract 0 m = s.extract k (k + m) := by
 rw [ByteArray.extract_extract]
 congr 1 <;> omega
theorem cut_quote (s : ByteArray) (k : Nat) (hk : k ≤ s.size) : (cutR 39 (s.extract k s.size)).2.2 = decide (scan nqB s k < s.size) ∧ (scan nqB s k < s.size → (cutR 39 (s.extract k s.size)).1 = s.extract k (scan nqB s k)) := by
 have hz : (s.extract k s.size).size = s.size - k := by rw [ByteArray.size_extract];omega
 have h0 := scan_ext nqB s k hk _ 0 (Nat.le_refl _)
 have h1 : scan (notB 39) (s.extract k s.size) 0 = scan nqB s k - k := by
  show scan nqB (s.extract k s.size) 0 = _
  rw [Nat.add_zero] at h0;omega
 have hge := scan_ge nqB s _ k (Nat.le_refl _)
 unfold cutR
 rw [h1, hz]
 by_cases h : scan nqB s k < s.size
 ·rw [if_pos (by omega), decide_eq_true h]
  refine ⟨rfl, fun _ => ?_⟩
  show (s.extract k s.size).extract 0 (scan nqB s k - k) = _
  rw [ext_ext s k _ (by omega)]
  congr 1;omega
 ·rw [if_neg (by omega), decide_eq_false h]
  exact ⟨rfl, fun h' => absurd h' h⟩
end Go.Proofs.YtnjmonkehjlaoaaGreatDoor
namespace Go.Proofs.YtnjmonkehjlaoaaGreatDoor
abbrev kGroup : ByteArray := ⟨#[103, 114, 111, 117, 112]⟩
abbrev kSlot : ByteArray := ⟨#[115, 108, 111, 116]⟩
abbrev kAppear : ByteArray := ⟨#[97, 112, 112, 101, 97, 114]⟩
abbrev kMoves : ByteArray := ⟨#[109, 111, 118, 101, 115]⟩
abbrev kOutIn : ByteArray := ⟨#[111, 117, 116, 45, 105, 110]⟩
abbrev kInOut : ByteArray := ⟨#[105, 110, 45, 111, 117, 116]⟩
abbrev kKind : ByteArray := ⟨#[107, 105, 110, 100]⟩
abbrev kMode : ByteArray := ⟨#[109, 111, 100, 101]⟩
abbrev kEnter : ByteArray := ⟨#[101, 110, 116, 101, 114]⟩
abbrev kLeave : ByteArray := ⟨#[108, 101, 97, 118, 101]⟩
abbrev kMove : ByteArray := ⟨#[109, 111, 118, 101]⟩
def optP (k : Int) (o : Opt) (r : ByteArray) : Option ((Int × Opt) × ByteArray) :=
 if (cutR 61 r).2.2 = true then
  if (cutR 61 r).1 = kEnter then (if (numP (cutR 61 r).2.1.data.toList).2 = true then some ((k, ((numP (cutR 61 r).2.1.data.toList).1, o.2.1, o.2.2.1, o.2.2.2.1, o.2.2.2.2.1, o.2.2.2.2.2)), kEnter) else none)
  else if (cutR 61 r).1 = kLeave then (if (numP (cutR 61 r).2.1.data.toList).2 = true then some ((k, (o.1, (numP (cutR 61 r).2.1.data.toList).1, o.2.2.1, o.2.2.2.1, o.2.2.2.2.1, o.2.2.2.2.2)), kLeave) else none)
  else if (cutR 61 r).1 = kMove then (if (numP (cutR 61 r).2.1.data.toList).2 = true then some ((k, (o.1, o.2.1, (numP (cutR 61 r).2.1.data.toList).1, o.2.2.2.1, o.2.2.2.2.1, o.2.2.2.2.2)), kMove) else none)
  else none
 else if r = kGroup then some ((3, o), kKind)
 else if r = kSlot then some ((4, o), kKind)
 else if r = kAppear then some ((k, (o.1, o.2.1, o.2.2.1, o.2.2.2.1, true, o.2.2.2.2.2)), kAppear)
 else if r = kMoves then some ((k, (o.1, o.2.1, o.2.2.1, o.2.2.2.1, o.2.2.2.2.1, true)), kMoves)
 else if r = kOutIn then some ((k, (o.1, o.2.1, o.2.2.1, 1, o.2.2.2.2.1, o.2.2.2.2.2)), kMode)
 else if r = kInOut then some ((k, (o.1, o.2.1, o.2.2.1, 2, o.2.2.2.2.1, o.2.2.2.2.2)), kMode)
 else none
def onceP {α : Type} (M : List ByteArray) (x : Option (α × ByteArray)) : Option (α × List ByteArray) := match x with
 | none => none
 | some (a, key) => if M.any (fun y => decide (y = key)) = true then none else some (a, M ++ [key])
theorem any_mem {M : List ByteArray} {k : ByteArray} : M.any (fun y => decide (y = k)) = true ↔ k ∈ M := by simp
theorem once_in {α : Type} {M : List ByteArray} {x : α} {k : ByteArray} (h : k ∈ M) : onceP M (some (x, k)) = none := if_pos (any_mem.2 h)
theorem once_out {α : Type} {M : List ByteArray} {x : α} {k : ByteArray} (h : k ∉ M) : onceP M (some (x, k)) = some (x, M ++ [k]) := if_neg (fun h' => h (any_mem.1 h'))
def itmP (n : Itm) (w : ByteArray) (M : List ByteArray) : Option (Itm × List ByteArray) :=
 let r := w.extract 1 w.size
 match w.data.toList with
 | [] => none
 | c :: _ =>
  if c.toNat = 35 then onceP (α := Itm) M (if keyS r = true then some ({ n with key := r }, ⟨#[35]⟩) else none)
  else if c.toNat = 46 then (if nameS r = true then some ({ n with cl := n.cl ++ [r] }, M) else none)
  else if c.toNat = 64 then onceP (α := Itm) M (if (cutR 61 r).2.2 = true ∧ nameS (cutR 61 r).1 = true ∧ valS (cutR 61 r).2.1 = true then some ({ n with al := n.al ++ [((cutR 61 r).1, (cutR 61 r).2.1)] }, ⟨#[64]⟩ ++ (cutR 61 r).1) else none)
  else if c.toNat = 33 then onceP (α := Itm) M ((optP n.k n.o r).map fun x => ({ n with k := x.1.1, o := x.1.2 }, x.2))
  else onceP (α := Itm) M (if (cutR 61 w).2.2 = true ∧ (numP (cutR 61 w).2.1.data.toList).2 = true ∧ nameS (cutR 61 w).1 = true then some ({ n with sl := n.sl ++ [((cutR 61 w).1, (numP (cutR 61 w).2.1.data.toList).1)] }, ⟨#[61]⟩ ++ (cutR 61 w).1) else none)
def keyP (x : ByteArray) : ByteArray := match x.data.toList with
 | 33 :: r => ⟨r.toArray⟩
 | _ => x
def GoodK (x : ByteArray) : Prop := x = ⟨#[35]⟩ ∨ (∃ r, x.data.toList = 64 :: r) ∨ (∃ r, x.data.toList = 61 :: r) ∨ (∃ r, x.data.toList = 33 :: r ∧ (∃ c q, r = c :: q ∧ c.toNat ≠ 35 ∧ c.toNat ≠ 64 ∧ c.toNat ≠ 61 ∧ c.toNat ≠ 33))
end Go.Proofs.YtnjmonkehjlaoaaGreatDoor
namespace Go.Proofs.YtnjmonkehjlaoaaGreatDoor
theorem baeq {a b : ByteArray} (h : a.data.toList = b.data.toList) : a = b := ByteArray.ext (Array.ext' h)
theorem good_inj {x y : ByteArray} (hx : GoodK x) (hy : GoodK y) (h : keyP x = keyP y) : x = y := by
 have k1 : ∀ {z : ByteArray}, z = ⟨#[35]⟩ → keyP z = z ∧ z.data.toList = [35] := fun {z} e => by subst e;exact ⟨rfl, rfl⟩
 have k2 : ∀ {z : ByteArray} {c : UInt8} {r : List UInt8}, c ≠ 33 → z.data.toList = c :: r → keyP z = z := fun {z c r} hc e => by
  unfold keyP;rw [e];split
  ·rename_i h;injection h with h _;exact absurd h hc
  ·rfl
 have k3 : ∀ {z : ByteArray} {r : List UInt8}, z.data.toList = 33 :: r → (keyP z).data.toList = r := fun {z r} e => by
  unfold keyP;rw [e];show (⟨r.toArray⟩ : ByteArray).data.toList = r;simp
 have n64 : (64 : UInt8) ≠ 33 := by decide
 have n61 : (61 : UInt8) ≠ 33 := by decide
 have plain : ∀ {z : ByteArray}, GoodK z → (keyP z = z ∧ ∃ c r, z.data.toList = c :: r ∧ (c.toNat = 35 ∨ c.toNat = 64 ∨ c.toNat = 61)) ∨ (∃ c q, z.data.toList = 33 :: c :: q ∧ (keyP z).data.toList = c :: q ∧ c.toNat ≠ 35 ∧ c.toNat ≠ 64 ∧ c.toNat ≠ 61) := by
  intro z hz
  rcases hz with hz | ⟨r, hz⟩ | ⟨r, hz⟩ | ⟨r, hz, c, q, hr, h1, h2, h3, _⟩
  ·exact .inl ⟨(k1 hz).1, 35, [], (k1 hz).2, .inl rfl⟩
  ·exact .inl ⟨k2 n64 hz, 64, r, hz, .inr (.inl rfl)⟩
  ·exact .inl ⟨k2 n61 hz, 61, r, hz, .inr (.inr rfl)⟩
  ·subst hr;exact .inr ⟨c, q, hz, k3 hz, h1, h2, h3⟩
 rcases plain hx with ⟨a1, c, r, a2, a3⟩ | ⟨c, q, a1, a2, a3, a4, a5⟩
 ·rcases plain hy with ⟨b1, _⟩ | ⟨c', q', b1, b2, b3, b4, b5⟩
  ·rw [a1, b1] at h;exact h
  ·rw [a1] at h
   rw [← h, a2] at b2
   injection b2 with e _
   subst e
   omega
 ·rcases plain hy with ⟨b1, c', r', b2, b3⟩ | ⟨c', q', b1, b2, _⟩
  ·rw [b1] at h
   rw [h, b2] at a2
   injection a2 with e _
   subst e
   omega
  ·rw [h, b2] at a2
   exact baeq (by rw [a1, b1, a2])
theorem key_mem {seen : List ByteArray} {x : ByteArray} (hs : ∀ y ∈ seen, GoodK y) (hx : GoodK x) : keyP x ∈ seen.map keyP ↔ x ∈ seen := by
 constructor
 ·intro h
  obtain ⟨y, hy, e⟩ := List.mem_map.1 h
  rw [← good_inj (hs y hy) hx e];exact hy
 ·exact fun h => List.mem_map.2 ⟨x, h, rfl⟩
abbrev toP (y : Itm × List ByteArray) : Itm × List ByteArray := (y.1, y.2.map keyP)
def fromO (seen : List ByteArray) (m : Option Itm) (x : Option ByteArray) : Option (Itm × List ByteArray) := match m with
 | none => none
 | some m => match x with
  | none => some (m, seen)
  | some x => if seen.any (fun y => decide (y = x)) = true then none else some (m, seen ++ [x])
theorem item_from (n : Itm) (w : ByteArray) (seen : List ByteArray) : itemF n w seen = fromO seen (addF n w) (whatF w) := rfl
theorem from_once {seen : List ByteArray} {m : Itm} {x : ByteArray} (hs : ∀ y ∈ seen, GoodK y) (hx : GoodK x) : (fromO seen (some m) (some x)).map toP = onceP (seen.map keyP) (some (m, keyP x)) := by
 show (if seen.any (fun y => decide (y = x)) = true then none else some (m, seen ++ [x])).map toP = _
 by_cases h : x ∈ seen
 ·rw [if_pos (any_mem.2 h), once_in ((key_mem hs hx).2 h)];rfl
 ·rw [if_neg (fun h' => h (any_mem.1 h')), once_out (fun h' => h ((key_mem hs hx).1 h'))];simp [toP]
theorem cut_cons {w : ByteArray} {c : UInt8} {r : List UInt8} (hw : w.data.toList = c :: r) (hc : c.toNat ≠ 61) : cutR 61 w = (⟨#[c]⟩ ++ (cutR 61 (w.extract 1 w.size)).1, (cutR 61 (w.extract 1 w.size)).2) := by
  have hsz : w.size = r.length + 1 := by have : w.data.toList.length = w.size := by simp
                                         rw [← this, hw]; rfl
  have h0 : 0 < w.size := by omega
  have hw0 : w[0] = c := by have := drop_cons h0; rw [List.drop_zero, hw] at this; injection this with e _; exact e.symm
  have h1 := scan_ext (notB 61) w 1 (by omega) _ 0 (Nat.le_refl _)
  have h2 : scan (notB 61) w 0 = scan (notB 61) w 1 := scan_yes h0 (by rw [hw0]; simp only [notB, Bool.not_eq_true', decide_eq_false_iff_not]; exact hc)
  have hz : (w.extract 1 w.size).size = w.size - 1 := by rw [ByteArray.size_extract]; omega
  unfold cutR
  rw [h2, hz]
  rw [show 1 + 0 = 1 from rfl] at h1
  generalize scan (notB 61) (w.extract 1 w.size) 0 = j at *
  rw [← h1]
  by_cases h : j + 1 < w.size
  · rw [if_pos h, if_pos (by omega)]
    refine Prod.ext ?_ (Prod.ext ?_ rfl)
    · apply baeq
      simp [ByteArray.data_append, ByteArray.data_extract, hw]
      omega
    · apply baeq
      show (w.extract (j + 1 + 1) w.size).data.toList = ((w.extract 1 w.size).extract (j + 1) (w.size - 1)).data.toList
      rw [ByteArray.extract_extract, show 1 + (j + 1) = j + 1 + 1 by omega, show min (1 + (w.size - 1)) w.size = w.size by omega]
  · have h' : ¬ j < w.size - 1 := fun hh => h (by omega)
    rw [if_neg h, if_neg h']
    refine Prod.ext ?_ rfl
    apply baeq
    simp [ByteArray.data_append, ByteArray.data_extract, hw, hsz]
theorem mark_eq {w : ByteArray} {r : List UInt8} (hw : w.data.toList = 33 :: r) (k : List UInt8) : w = ⟨⟨33 :: k⟩⟩ ↔ w.extract 1 w.size = ⟨⟨k⟩⟩ := by
  have hsz : w.size = r.length + 1 := by have : w.data.toList.length = w.size := by simp
                                         rw [← this, hw]; rfl
  have he : (w.extract 1 w.size).data.toList = r := by simp [ByteArray.data_extract, hw, hsz]
  constructor
  · intro e
    apply baeq
    rw [he]
    have : w.data.toList = 33 :: k := by rw [e]
    rw [hw] at this
    injection this
  · intro e
    apply baeq
    rw [hw]
    have : (w.extract 1 w.size).data.toList = k := by rw [e]
    rw [he] at this
    rw [this]
end Go.Proofs.YtnjmonkehjlaoaaGreatDoor
namespace Go.Proofs.YtnjmonkehjlaoaaGreatDoor
theorem from_good {seen more : List ByteArray} {m m' : Itm} {x : Option ByteArray} (hs : ∀ y ∈ seen, GoodK y) (hx : ∀ z, x = some z → GoodK z) (h : fromO seen (some m) x = some (m', more)) : ∀ y ∈ more, GoodK y := by
 cases x with
 | none => injection h with h;injection h with _ h;subst h;exact hs
 | some z =>
  have h' : (if seen.any (fun y => decide (y = z)) = true then none else some (m, seen ++ [z])) = some (m', more) := h
  by_cases hz : seen.any (fun y => decide (y = z)) = true
  ·rw [if_pos hz] at h';cases h'
  ·rw [if_neg hz] at h'
   injection h' with h';injection h' with _ h';subst h'
   intro y hy
   rcases List.mem_append.1 hy with hy | hy
   ·exact hs y hy
   ·rw [List.mem_singleton] at hy;subst hy;exact hx y rfl
abbrev ItmEq (n : Itm) (w : ByteArray) (seen : List ByteArray) : Prop := (itemF n w seen).map toP = itmP n w (seen.map keyP) ∧ ∀ m more, itemF n w seen = some (m, more) → ∀ y ∈ more, GoodK y
theorem eq_none {n : Itm} {w : ByteArray} {seen : List ByteArray} (ha : addF n w = none) (hp : itmP n w (seen.map keyP) = none) : ItmEq n w seen := by
 have e : itemF n w seen = none := by rw [item_from, ha];rfl
 exact ⟨by rw [e, hp];rfl, fun m more h => by rw [e] at h;cases h⟩
theorem eq_some {n m : Itm} {w x : ByteArray} {seen : List ByteArray} (hs : ∀ y ∈ seen, GoodK y) (ha : addF n w = some m) (hx : whatF w = some x) (hg : GoodK x) (hp : itmP n w (seen.map keyP) = onceP (seen.map keyP) (some (m, keyP x))) : ItmEq n w seen := by
 have e : itemF n w seen = fromO seen (some m) (some x) := by rw [item_from, ha, hx]
 exact ⟨by rw [e, hp];exact from_once hs hg, fun m' more h => by rw [e] at h;exact from_good hs (fun z hz => by injection hz with hz;rw [← hz];exact hg) h⟩
theorem pre_list (c : UInt8) (x : ByteArray) : ((⟨#[c]⟩ : ByteArray) ++ x).data.toList = c :: x.data.toList := by simp [ByteArray.data_append]
theorem pre_eq (nm : ByteArray) (k : List UInt8) : ((⟨#[33]⟩ : ByteArray) ++ nm) = ⟨⟨33 :: k⟩⟩ ↔ nm = ⟨⟨k⟩⟩ := by
 constructor
 ·intro e
  apply baeq
  have : ((⟨#[33]⟩ : ByteArray) ++ nm).data.toList = 33 :: k := by rw [e]
  rw [pre_list] at this
  injection this
 ·intro e;subst e;apply baeq;rw [pre_list]
theorem pre_key (nm : ByteArray) : keyP ((⟨#[33]⟩ : ByteArray) ++ nm) = nm := by
 unfold keyP
 rw [pre_list]
 apply baeq
 show (⟨nm.data.toList.toArray⟩ : ByteArray).data.toList = _
 simp
theorem good33 {nm : ByteArray} {c : UInt8} {q : List UInt8} (h : nm.data.toList = c :: q) (hc : c.toNat ≠ 35 ∧ c.toNat ≠ 64 ∧ c.toNat ≠ 61 ∧ c.toNat ≠ 33) : GoodK ((⟨#[33]⟩ : ByteArray) ++ nm) :=
 .inr (.inr (.inr ⟨nm.data.toList, pre_list 33 nm, c, q, h, hc⟩))
theorem u8_of_nat {c d : UInt8} (h : c.toNat = d.toNat) : c = d := UInt8.toNat_inj.1 h
set_option maxHeartbeats 4000000 in
theorem item_eq {n : Itm} {w : ByteArray} {seen : List ByteArray} (hs : ∀ y ∈ seen, GoodK y) : ItmEq n w seen := by
  cases hw : w.data.toList with
  | nil => exact eq_none (by unfold addF; rw [hw]) (by unfold itmP; rw [hw])
  | cons c q =>
    by_cases c35 : c.toNat = 35
    · have e := u8_of_nat (d := 35) c35
      subst e
      have ha : addF n w = if keyS (w.extract 1 w.size) = true then some { n with key := w.extract 1 w.size } else none := by unfold addF; rw [hw]; simp only [if_pos c35]
      have hx : whatF w = some ⟨#[35]⟩ := by unfold whatF; rw [hw]; rfl
      have hp : itmP n w (seen.map keyP) = onceP (α := Itm) (seen.map keyP) (if keyS (w.extract 1 w.size) = true then some ({ n with key := w.extract 1 w.size }, ⟨#[35]⟩) else none) := by unfold itmP; rw [hw]; simp only [if_pos c35]
      by_cases hk : keyS (w.extract 1 w.size) = true
      · rw [if_pos hk] at ha hp
        exact eq_some hs ha hx (.inl rfl) hp
      · rw [if_neg hk] at ha hp
        exact eq_none ha hp
    · by_cases c46 : c.toNat = 46
      · have e := u8_of_nat (d := 46) c46
        subst e
        have ha : addF n w = if nameS (w.extract 1 w.size) = true then some { n with cl := n.cl ++ [w.extract 1 w.size] } else none := by unfold addF; rw [hw]; simp only [if_neg c35, if_pos c46]
        have hx : whatF w = none := by unfold whatF; rw [hw]; rfl
        have hp : itmP n w (seen.map keyP) = if nameS (w.extract 1 w.size) = true then some ({ n with cl := n.cl ++ [w.extract 1 w.size] }, seen.map keyP) else none := by unfold itmP; rw [hw]; simp only [if_neg c35, if_pos c46]
        by_cases hk : nameS (w.extract 1 w.size) = true
        · rw [if_pos hk] at ha hp
          have e : itemF n w seen = some ({ n with cl := n.cl ++ [w.extract 1 w.size] }, seen) := by rw [item_from, ha, hx]; rfl
          exact ⟨by rw [e, hp]; rfl, fun m more h => by rw [e] at h; injection h with h; injection h with _ h; subst h; exact hs⟩
        · rw [if_neg hk] at ha hp
          exact eq_none ha hp
      · by_cases c64 : c.toNat = 64
        · have e := u8_of_nat (d := 64) c64
          subst e
          have ha : addF n w = match cutE (w.extract 1 w.size) with
            | some (a, v) => if nameS a = true ∧ valS v = true then some { n with al := n.al ++ [(a, v)] } else none
            | none => none := by
            unfold addF; rw [hw]; simp only [if_neg c35, if_neg c46, if_pos c64]
            try (rcases cutE (w.extract 1 w.size) with _ | ⟨a, v⟩ <;> rfl)
          have hx : whatF w = some (nmE w) := by unfold whatF; rw [hw]; rfl
          have hp : itmP n w (seen.map keyP) = onceP (α := Itm) (seen.map keyP) (if (cutR 61 (w.extract 1 w.size)).2.2 = true ∧ nameS (cutR 61 (w.extract 1 w.size)).1 = true ∧ valS (cutR 61 (w.extract 1 w.size)).2.1 = true then some ({ n with al := n.al ++ [((cutR 61 (w.extract 1 w.size)).1, (cutR 61 (w.extract 1 w.size)).2.1)] }, ⟨#[64]⟩ ++ (cutR 61 (w.extract 1 w.size)).1) else none) := by unfold itmP; rw [hw]; simp only [if_neg c35, if_neg c46, if_pos c64]
          rw [cutR_eq] at ha
          rw [cutR_nm, cut_cons hw (by decide)] at hx
          generalize (cutR 61 (w.extract 1 w.size)).2.2 = is at *
          generalize (cutR 61 (w.extract 1 w.size)).2.1 = va at *
          generalize (cutR 61 (w.extract 1 w.size)).1 = nm at *
          cases is with
          | false =>
            rw [if_neg (by rintro ⟨h, -⟩; cases h)] at hp
            exact eq_none ha hp
          | true =>
            rw [if_pos rfl] at ha
            by_cases hk : nameS nm = true ∧ valS va = true
            · rw [if_pos ⟨rfl, hk.1, hk.2⟩] at hp
              have ha' : addF n w = some { n with al := n.al ++ [(nm, va)] } := by rw [ha]; exact if_pos hk
              have hkp : keyP ((⟨#[64]⟩ : ByteArray) ++ nm) = ⟨#[64]⟩ ++ nm := by unfold keyP; rw [pre_list]; rfl
              exact eq_some hs ha' hx (.inr (.inl ⟨_, pre_list 64 nm⟩)) (by rw [hkp]; exact hp)
            · rw [if_neg (fun h => hk ⟨h.2.1, h.2.2⟩)] at hp
              exact eq_none (by rw [ha]; exact if_neg hk) hp
        · by_cases c33 : c.toNat = 33
          · have e := u8_of_nat (d := 33) c33
            subst e
            have hp : itmP n w (seen.map keyP) = onceP (α := Itm) (seen.map keyP) ((optP n.k n.o (w.extract 1 w.size)).map fun x => ({ n with k := x.1.1, o := x.1.2 }, x.2)) := by unfold itmP; rw [hw]; simp only [if_neg c35, if_neg c46, if_neg c64, if_pos c33]
            have ha : addF n w = addF n w := rfl
            conv at ha => rhs; unfold addF
            rw [hw] at ha
            simp only at ha
            rw [if_neg c35, if_neg c46, if_neg c64, if_pos c33] at ha
            have hx : whatF w = whatF w := rfl
            conv at hx => rhs; unfold whatF
            rw [hw] at hx
            simp only at hx
            have hnm := cutR_nm w
            have hce := cutR_eq w
            have hcc := cut_cons hw (by decide)
            have gGroup : w = wGroup ↔ w.extract 1 w.size = kGroup := mark_eq hw [103, 114, 111, 117, 112]
            have gSlot : w = wSlot ↔ w.extract 1 w.size = kSlot := mark_eq hw [115, 108, 111, 116]
            have gOutIn : w = wOutIn ↔ w.extract 1 w.size = kOutIn := mark_eq hw [111, 117, 116, 45, 105, 110]
            have gInOut : w = wInOut ↔ w.extract 1 w.size = kInOut := mark_eq hw [105, 110, 45, 111, 117, 116]
            have gAppear : w = wAppear ↔ w.extract 1 w.size = kAppear := mark_eq hw [97, 112, 112, 101, 97, 114]
            have gMoves : w = wMoves ↔ w.extract 1 w.size = kMoves := mark_eq hw [109, 111, 118, 101, 115]
            have hopt : optP n.k n.o (w.extract 1 w.size) = optP n.k n.o (w.extract 1 w.size) := rfl
            conv at hopt => rhs; unfold optP
            have nis : ∀ z, (cutR 61 z).2.2 = false → w.extract 1 w.size = z → (cutR 61 (w.extract 1 w.size)).2.2 = false := fun z h e => by rw [e]; exact h
            have iGroup := nis kGroup (by kernel_rfl)
            have iSlot := nis kSlot (by kernel_rfl)
            have iOutIn := nis kOutIn (by kernel_rfl)
            have iInOut := nis kInOut (by kernel_rfl)
            have iAppear := nis kAppear (by kernel_rfl)
            have iMoves := nis kMoves (by kernel_rfl)
            clear nis
            change whatF w = (if w = wGroup ∨ w = wSlot then some (⟨#[33]⟩ ++ kKind) else if w = wOutIn ∨ w = wInOut then some (⟨#[33]⟩ ++ kMode) else some (nmE w)) at hx
            simp only [gGroup, gSlot, gOutIn, gInOut] at hx
            simp only [gGroup, gSlot, gOutIn, gInOut, gAppear, gMoves] at ha
            rw [hcc] at hnm hce
            have hwe : w = (⟨#[33]⟩ : ByteArray) ++ w.extract 1 w.size := by
              apply baeq
              rw [pre_list, hw]
              have hsz : w.size = q.length + 1 := by have : w.data.toList.length = w.size := by simp
                                                     rw [← this, hw]; rfl
              simp [ByteArray.data_extract, hw, hsz]
            have hnc : (cutR 61 (w.extract 1 w.size)).2.2 = false → (cutR 61 (w.extract 1 w.size)).1 = w.extract 1 w.size := fun h => by
              unfold cutR at h ⊢
              split at h
              · cases h
              · rename_i hh; rw [if_neg hh]
            generalize (cutR 61 (w.extract 1 w.size)).2.2 = is at *
            generalize (cutR 61 (w.extract 1 w.size)).2.1 = va at *
            generalize (cutR 61 (w.extract 1 w.size)).1 = nm at *
            generalize optP n.k n.o (w.extract 1 w.size) = res at *
            generalize w.extract 1 w.size = r at *
            cases is with
            | true =>
              have jGroup : ¬ r = kGroup := fun e => by have := iGroup e; cases this
              have jSlot : ¬ r = kSlot := fun e => by have := iSlot e; cases this
              have jOutIn : ¬ r = kOutIn := fun e => by have := iOutIn e; cases this
              have jInOut : ¬ r = kInOut := fun e => by have := iInOut e; cases this
              have jAppear : ¬ r = kAppear := fun e => by have := iAppear e; cases this
              have jMoves : ¬ r = kMoves := fun e => by have := iMoves e; cases this
              rw [if_pos rfl] at hopt hce
              rw [if_neg jGroup, if_neg jSlot, if_neg jOutIn, if_neg jInOut, if_neg jAppear, if_neg jMoves, hce] at ha
              rw [if_neg (fun h => h.elim jGroup jSlot), if_neg (fun h => h.elim jOutIn jInOut), hnm] at hx
              simp only at ha
              have pE : (⟨#[33]⟩ : ByteArray) ++ nm = wEnter ↔ nm = kEnter := pre_eq nm [101, 110, 116, 101, 114]
              have pL : (⟨#[33]⟩ : ByteArray) ++ nm = wLeave ↔ nm = kLeave := pre_eq nm [108, 101, 97, 118, 101]
              have pM : (⟨#[33]⟩ : ByteArray) ++ nm = wMove ↔ nm = kMove := pre_eq nm [109, 111, 118, 101]
              simp only [pE, pL, pM] at ha
              by_cases hok : (numP va.data.toList).2 = true
              · rw [if_pos hok] at ha
                by_cases hkEnter : nm = kEnter
                · rw [if_pos hkEnter] at ha hopt
                  rw [if_pos hok] at hopt
                  subst hopt
                  refine eq_some hs ha hx ?_ (by rw [hp, pre_key, hkEnter]; rfl)
                  rw [hkEnter]; exact good33 (c := 101) rfl (by decide)
                · rw [if_neg hkEnter] at ha hopt
                  by_cases hkLeave : nm = kLeave
                  · rw [if_pos hkLeave] at ha hopt
                    rw [if_pos hok] at hopt
                    subst hopt
                    refine eq_some hs ha hx ?_ (by rw [hp, pre_key, hkLeave]; rfl)
                    rw [hkLeave]; exact good33 (c := 108) rfl (by decide)
                  · rw [if_neg hkLeave] at ha hopt
                    by_cases hkMove : nm = kMove
                    · rw [if_pos hkMove] at ha hopt
                      rw [if_pos hok] at hopt
                      subst hopt
                      refine eq_some hs ha hx ?_ (by rw [hp, pre_key, hkMove]; rfl)
                      rw [hkMove]; exact good33 (c := 109) rfl (by decide)
                    · rw [if_neg hkMove] at ha hopt
                      subst hopt
                      exact eq_none ha hp
              · rw [if_neg hok] at ha
                have hres : res = none := by rw [hopt]; simp only [if_neg hok, ite_self]
                subst hres
                exact eq_none ha hp
            | false =>
              rw [if_neg (by decide)] at hopt hce
              have hnr := hnc rfl
              rw [hnr] at hnm
              rw [hce] at ha
              simp only at ha
              by_cases hG : r = kGroup
              · rw [if_pos hG] at ha hopt; rw [if_pos (.inl hG)] at hx; subst hopt
                exact eq_some hs ha hx (good33 (c := 107) rfl (by decide)) (by rw [hp, pre_key]; rfl)
              by_cases hSl : r = kSlot
              · rw [if_neg hG, if_pos hSl] at ha hopt; rw [if_pos (.inr hSl)] at hx; subst hopt
                exact eq_some hs ha hx (good33 (c := 107) rfl (by decide)) (by rw [hp, pre_key]; rfl)
              rw [if_neg hG, if_neg hSl] at ha hopt
              rw [if_neg (fun h => h.elim hG hSl)] at hx
              by_cases hO : r = kOutIn
              · have hA : ¬ r = kAppear := fun e => by rw [hO] at e; exact absurd (congrArg (fun z : ByteArray => z.data.toList) e) (by decide)
                have hM : ¬ r = kMoves := fun e => by rw [hO] at e; exact absurd (congrArg (fun z : ByteArray => z.data.toList) e) (by decide)
                rw [if_pos hO] at ha; rw [if_neg hA, if_neg hM, if_pos hO] at hopt; rw [if_pos (.inl hO)] at hx; subst hopt
                exact eq_some hs ha hx (good33 (c := 109) rfl (by decide)) (by rw [hp, pre_key]; rfl)
              by_cases hI : r = kInOut
              · have hA : ¬ r = kAppear := fun e => by rw [hI] at e; exact absurd (congrArg (fun z : ByteArray => z.data.toList) e) (by decide)
                have hM : ¬ r = kMoves := fun e => by rw [hI] at e; exact absurd (congrArg (fun z : ByteArray => z.data.toList) e) (by decide)
                rw [if_neg hO, if_pos hI] at ha; rw [if_neg hA, if_neg hM, if_neg hO, if_pos hI] at hopt; rw [if_pos (.inr hI)] at hx; subst hopt
                exact eq_some hs ha hx (good33 (c := 109) rfl (by decide)) (by rw [hp, pre_key]; rfl)
              rw [if_neg hO, if_neg hI] at ha
              rw [if_neg (fun h => h.elim hO hI), hnm] at hx
              by_cases hA : r = kAppear
              · rw [if_pos hA] at ha hopt; subst hopt
                refine eq_some hs ha hx ?_ (by rw [hp, pre_key, hA]; rfl)
                rw [hA]; exact good33 (c := 97) rfl (by decide)
              by_cases hM : r = kMoves
              · rw [if_neg hA, if_pos hM] at ha hopt; subst hopt
                refine eq_some hs ha hx ?_ (by rw [hp, pre_key, hM]; rfl)
                rw [hM]; exact good33 (c := 109) rfl (by decide)
              rw [if_neg hA, if_neg hM] at ha hopt
              rw [if_neg hO, if_neg hI] at hopt
              subst hopt
              exact eq_none ha hp
          · have ne : ∀ {d : UInt8} {k : Nat}, d.toNat = k → c.toNat ≠ k → c ≠ d := fun h1 h2 e => h2 (by rw [e]; exact h1)
            have ha : addF n w = match cutE w with
              | some (a, v) => if nameS a = true ∧ (numP v.data.toList).2 = true then some { n with sl := n.sl ++ [(a, (numP v.data.toList).1)] } else none
              | none => none := by
              unfold addF; rw [hw]; simp only [if_neg c35, if_neg c46, if_neg c64, if_neg c33]
              try (rcases cutE w with _ | ⟨a, v⟩ <;> rfl)
            have hx : whatF w = some (⟨#[61]⟩ ++ nmE w) := by
              unfold whatF; rw [hw]
              split
              · rename_i h; injection h with h _; exact absurd h (ne (d := 46) rfl c46)
              · rename_i h; injection h with h _; exact absurd h (ne (d := 35) rfl c35)
              · rename_i h; injection h with h _; exact absurd h (ne (d := 64) rfl c64)
              · rename_i h; injection h with h _; exact absurd h (ne (d := 33) rfl c33)
              · rfl
            have hp : itmP n w (seen.map keyP) = onceP (α := Itm) (seen.map keyP) (if (cutR 61 w).2.2 = true ∧ (numP (cutR 61 w).2.1.data.toList).2 = true ∧ nameS (cutR 61 w).1 = true then some ({ n with sl := n.sl ++ [((cutR 61 w).1, (numP (cutR 61 w).2.1.data.toList).1)] }, ⟨#[61]⟩ ++ (cutR 61 w).1) else none) := by
              unfold itmP; rw [hw]; simp only [if_neg c35, if_neg c46, if_neg c64, if_neg c33]
            rw [cutR_eq] at ha
            rw [cutR_nm] at hx
            generalize (cutR 61 w).2.2 = is at *
            generalize (cutR 61 w).2.1 = va at *
            generalize (cutR 61 w).1 = nm at *
            cases is with
            | false =>
              rw [if_neg (by rintro ⟨h, -⟩; cases h)] at hp
              exact eq_none ha hp
            | true =>
              rw [if_pos rfl] at ha
              by_cases hk : nameS nm = true ∧ (numP va.data.toList).2 = true
              · rw [if_pos ⟨rfl, hk.2, hk.1⟩] at hp
                have ha' : addF n w = some { n with sl := n.sl ++ [(nm, (numP va.data.toList).1)] } := by rw [ha]; exact if_pos hk
                have hkp : keyP ((⟨#[61]⟩ : ByteArray) ++ nm) = ⟨#[61]⟩ ++ nm := by unfold keyP; rw [pre_list]; rfl
                exact eq_some hs ha' hx (.inr (.inr (.inl ⟨_, pre_list 61 nm⟩))) (by rw [hkp]; exact hp)
              · rw [if_neg (fun h => hk ⟨h.2.2, h.2.1⟩)] at hp
                exact eq_none (by rw [ha]; exact if_neg hk) hp
end Go.Proofs.YtnjmonkehjlaoaaGreatDoor
