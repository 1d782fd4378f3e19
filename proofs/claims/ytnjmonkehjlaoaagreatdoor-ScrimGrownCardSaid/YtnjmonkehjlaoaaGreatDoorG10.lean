/- Layer 5: nodes are made, and changed. Layer 5: two nodes in hand; numbers put in and taken out. Layer 5: a node leaves its parent, and stands elsewhere. Layer 5: a node, and all below it, are told, and removed. Layer 5, plain: no node stands below itself, and none is told twice. Layer 5: a node is removed. Nodes with nodes within, as they lie in memory. What is shown, as a tree, as it lies in memory. Layer 9, plain: what nodes are, with all below them, as a tree. Layers 5 and 9: a Dom is made; what nodes are, with all below them, is read. -/
import Derived.Test.YtnjmonkehjlaoaaGreatDoorG09
import Derived.Test.YtnjmonkehjlaoaaGreatDoorG07
set_option linter.all false
namespace Go.Proofs.YtnjmonkehjlaoaaGreatDoor
open Go.RowKit
set_option maxRecDepth 100000
attribute [local irreducible] Go.Code.wpIn Go.wpListIn Go.Calls Gives Go.Exit.then Go.Exit.inBlock Done ObxE
section
variable {B : Bs} {w : World} {L L' : List HP} {bl : Int → Nat} {bd bm : Nat} {D : DomP}
abbrev domO (bd : Nat) (D : DomP) (bm : Nat) (bl : Int → Nat) (id : Int) : List HP := [pts bd (domC5 D bm) 90, mapH encI (.map (some bm)) (mapL bl D.l), ndsH bl (ousP D.l id)]
theorem St.outD (hS : St B (domL bd D bm bl ++ L) w) (hu : (D.l.map (·.id)).Nodup) {id : Int} {n : NodeP} (hn : D.f id = some n) : St B (nodH (bl id) n :: (domO bd D bm bl id ++ L)) w := by
 have h1 := hS.out (bl := bl) (l := D.l) (.there (.there .here)) hu hn
 exact h1.sub (.cons .here (.cons (.there .here) (.cons (.there .here) (.cons .here .refl))))
end
section
variable {B : Bs} {w : World} {L : List HP} {bd : Nat} {D : DomP} {K : Nat}
set_option maxHeartbeats 4000000 in
theorem add5_any (kind : Int) (tag text : ByteArray) (hW : WfD D) (hb : Bnd K D) (hK : K ≤ 100000) (hS : St B (domH bd D :: L) w) :
  Calls Tryz.prog 93 #[pA bd, .agg #[.int .i64 0, .int .i64 kind, .string tag, .string text, .slice none 0 0, .slice none 0 0, .slice none 0 0, .int .i64 0, .slice none 0 0]] w
   (Ret fun v w' => v = .tuple #[.int .i64 (addP D kind tag text).2.1, .int .i64 (addP D kind tag text).2.2] ∧ St B (domH bd (addP D kind tag text).1 :: L) w') := by
 have hlen := hb.len
 have hnx := hb.nx
 have hn1 := hW.wf.nx
 have hmo := hW.most
 obtain ⟨bm, bl, hS1⟩ := hS.dom (bd := bd) (D := D) .here
 clear hS
 have hS := hS1
 clear hS1
 unfold addP
 simp only [domL, domC5, List.cons_append, List.nil_append] at hS
 refine enter Tryz.func93 rfl Tryz.ntmps93 rfl (fun a hk => ?_)
 (repeat' (first|((first|refine wx1 ?_|refine wx2 ?_ ?_<;>intro hp|refine s_end hk ?_)<;>(clear hk a;intro a hk))|((first|refine wx3 ?_;intro w b|refine wx4 ?_;intro w|refine wx5 ?_;intro w v);clear hk hS a;intro hS a hk)|refine wx0 ?_|fail))
 rename Nat => b3
 refine sg hk (g_callO hk (hf := by kernel_rfl) (hc := room5_any (bd := bd) (D := D) (bm := bm) (bl := bl) _ ⟨hS.rd atx, hS.rd atx, hS.rd atx⟩ (by omega) hmo) (h := ?_));clear hk a;rintro _ w ⟨rfl, hS1⟩ a hk;replace hS := hS.call0 hS1;clear hS1
 by_cases hr : (D.l.length : Int) > D.most
 ·rw [if_pos hr]
  (repeat' (first|((first|refine wx1 ?_|refine wx2 ?_ ?_<;>intro hp|refine s_end hk ?_)<;>(clear hk a;intro a hk))|((first|refine wx3 ?_;intro w b|refine wx4 ?_;intro w|refine wx5 ?_;intro w v);clear hk hS a;intro hS a hk)|refine wx0 ?_|fail))
  refine done2 hk (h := ⟨rfl, ?_⟩)
  exact domH.of (bm := bm) (bl := bl) (hS.sub (.cons atx (.cons atx (.cons atx (by repeat (first | exact Sub.refl | apply Sub.under))))))
 ·rw [if_neg hr]
  (repeat' (first|((first|refine wx1 ?_|refine wx2 ?_ ?_<;>intro hp|refine s_end hk ?_)<;>(clear hk a;intro a hk))|((first|refine wx3 ?_;intro w b|refine wx4 ?_;intro w|refine wx5 ?_;intro w v);clear hk hS a;intro hS a hk)|refine wx0 ?_|fail))
  refine wp_drawn 6 mixed (by kernel_rfl) hk hS ?_;clear hk hS a
  (repeat' (first|(show ObxE _ _ _ _ _ _ _ _ _ (_::_) _ _ _;first|refine ox1 ?_|refine ox2 ?_ ?_<;>intro hp)|fail))
  refine obe_nil ⟨rfl, ?_⟩;intro us a w hk hS
  have hno : ∀ x ∈ D.l, x.id ≠ D.next := fun x hx e => by
   have h2 := hW.wf.idn _ _ (fnd_of_mem hW.uni hx)
   omega
  refine su hk (g_mapUpdate (m := mapL bl D.l) (k := D.next) hk hS ?_ (mT rfl) keyI);clear hk hS a;intro w hS a hk
  rw [setL_mapL hno] at hS
  (repeat' (first|((first|refine wx1 ?_|refine wx2 ?_ ?_<;>intro hp|refine s_end hk ?_)<;>(clear hk a;intro a hk))|((first|refine wx3 ?_;intro w b|refine wx4 ?_;intro w|refine wx5 ?_;intro w v);clear hk hS a;intro hS a hk)|refine wx0 ?_|fail))
  refine done2 hk (h := ⟨rfl, ?_⟩)
  have hS1 := (((hS.nilT 3 Int).nilT 140 PrI).nilT 139 PrS).nilT 9 ByteArray
  clear hS
  have hS : St B (nodeL b3 ⟨D.next, kind, tag, text, [], [], [], -1, []⟩ ((none, 0), (none, 0), (none, 0), (none, 0)) ++ (ndsH bl D.l :: pts bd [.int .i64 D.most, .int .i64 (D.next + 1), .map (some bm)] 90 :: mapH encI (.map (some bm)) (mapL bl D.l ++ [(D.next, pA b3)]) :: L)) w := by
   refine hS1.sub ?_
   simp only [nodeL, nodC, List.length_nil, List.cons_append, List.nil_append]
   exact (.cons atx (.cons atx (.cons atx (.cons atx (.cons atx (.cons atx (.cons atx (.cons atx (by repeat (first | exact Sub.refl | apply Sub.under))))))))))
  clear hS1
  have hS1 := ndsH.add (n := ⟨D.next, kind, tag, text, [], [], [], -1, []⟩) hno (nodH.of hS)
  clear hS
  refine domH.of (bm := bm) (bl := fun j => if j = D.next then b3 else bl j) ?_
  have e : mapL (fun j => if j = D.next then b3 else bl j) (D.l ++ [⟨D.next, kind, tag, text, [], [], [], -1, []⟩]) = mapL bl D.l ++ [(D.next, pA b3)] := by
   have := mapL_up (bl := bl) (b := b3) hno
   unfold mapL at this ⊢
   rw [List.map_append, this]
   simp
  show St B (pts bd [.int .i64 D.most, .int .i64 (D.next + 1), .map (some bm)] 90 :: mapH encI (.map (some bm)) (mapL (fun j => if j = D.next then b3 else bl j) (D.l ++ [⟨D.next, kind, tag, text, [], [], [], -1, []⟩])) :: ndsH (fun j => if j = D.next then b3 else bl j) (D.l ++ [⟨D.next, kind, tag, text, [], [], [], -1, []⟩]) :: L) w
  rw [e]
  exact hS1.sub (.cons atx (.cons atx (.cons atx .refl)))
set_option maxHeartbeats 2000000 in
theorem elem5_any (tag : ByteArray) (ht : tag.size ≤ 1000000) (hW : WfD D) (hb : Bnd K D) (hK : K ≤ 100000) (hS : St B (domH bd D :: L) w) :
  Calls Tryz.prog 58 #[pA bd, .string tag] w (Ret fun v w' => v = .tuple #[.int .i64 (elemP D tag).2.1, .int .i64 (elemP D tag).2.2] ∧ St B (domH bd (elemP D tag).1 :: L) w') := by
 unfold elemP
 refine enter Tryz.func58 rfl Tryz.ntmps58 rfl (fun a hk => ?_)
 (repeat' (first|((first|refine wx1 ?_|refine wx2 ?_ ?_<;>intro hp|refine s_end hk ?_)<;>(clear hk a;intro a hk))|((first|refine wx3 ?_;intro w b|refine wx4 ?_;intro w|refine wx5 ?_;intro w v);clear hk hS a;intro hS a hk)|refine wx0 ?_|fail))
 refine sg hk (g_callO hk (hf := by kernel_rfl) (hc := name_any tag ht _) (h := ?_));clear hk a;rintro _ w ⟨rfl, hS1⟩ a hk;replace hS := hS.call0 hS1;clear hS1
 cases hn : nameS tag with
 | false =>
  rw [hn] at hk
  rw [if_neg (by simp)]
  (repeat' (first|((first|refine wx1 ?_|refine wx2 ?_ ?_<;>intro hp|refine s_end hk ?_)<;>(clear hk a;intro a hk))|((first|refine wx3 ?_;intro w b|refine wx4 ?_;intro w|refine wx5 ?_;intro w v);clear hk hS a;intro hS a hk)|refine wx0 ?_|fail))
  exact done2 hk (h := ⟨rfl, hS⟩)
 | true =>
  rw [hn] at hk
  rw [if_pos rfl]
  (repeat' (first|((first|refine wx1 ?_|refine wx2 ?_ ?_<;>intro hp|refine s_end hk ?_)<;>(clear hk a;intro a hk))|((first|refine wx3 ?_;intro w b|refine wx4 ?_;intro w|refine wx5 ?_;intro w v);clear hk hS a;intro hS a hk)|refine wx0 ?_|fail))
  refine sg hk (g_callO hk (hf := by kernel_rfl) (hc := add5_any 2 tag ⟨#[]⟩ hW hb hK hS) (h := ?_));clear hk hS a;rintro _ w ⟨rfl, hS⟩ a hk
  (repeat' (first|((first|refine wx1 ?_|refine wx2 ?_ ?_<;>intro hp|refine s_end hk ?_)<;>(clear hk a;intro a hk))|((first|refine wx3 ?_;intro w b|refine wx4 ?_;intro w|refine wx5 ?_;intro w v);clear hk hS a;intro hS a hk)|refine wx0 ?_|fail))
  exact done2 hk (h := ⟨rfl, hS⟩)
theorem text5_any (s : ByteArray) (hW : WfD D) (hb : Bnd K D) (hK : K ≤ 100000) (hS : St B (domH bd D :: L) w) :
  Calls Tryz.prog 56 #[pA bd, .string s] w (Ret fun v w' => v = .tuple #[.int .i64 (textP D s).2.1, .int .i64 (textP D s).2.2] ∧ St B (domH bd (textP D s).1 :: L) w') := by
 unfold textP
 refine enter Tryz.func56 rfl Tryz.ntmps56 rfl (fun a hk => ?_)
 (repeat' (first|((first|refine wx1 ?_|refine wx2 ?_ ?_<;>intro hp|refine s_end hk ?_)<;>(clear hk a;intro a hk))|((first|refine wx3 ?_;intro w b|refine wx4 ?_;intro w|refine wx5 ?_;intro w v);clear hk hS a;intro hS a hk)|refine wx0 ?_|fail))
 refine sg hk (g_callO hk (hf := by kernel_rfl) (hc := add5_any 1 ⟨#[]⟩ s hW hb hK hS) (h := ?_));clear hk hS a;rintro _ w ⟨rfl, hS⟩ a hk
 (repeat' (first|((first|refine wx1 ?_|refine wx2 ?_ ?_<;>intro hp|refine s_end hk ?_)<;>(clear hk a;intro a hk))|((first|refine wx3 ?_;intro w b|refine wx4 ?_;intro w|refine wx5 ?_;intro w v);clear hk hS a;intro hS a hk)|refine wx0 ?_|fail))
 exact done2 hk (h := ⟨rfl, hS⟩)
end
end Go.Proofs.YtnjmonkehjlaoaaGreatDoor
namespace Go.Proofs.YtnjmonkehjlaoaaGreatDoor
open Go.RowKit
set_option maxRecDepth 100000
attribute [local irreducible] Go.Code.wpIn Go.wpListIn Go.Calls Gives Go.Exit.then Go.Exit.inBlock Done ObxE
set_option maxHeartbeats 1000000 in
theorem insI5_any {B : Bs} {w : World} {L : List HP} {xs : List Int} {e : Int} {i : Nat} {v ve : Value} (hS : St B (OwT 3 xs v :: OwT 3 [e] ve :: L) w) (hi : i ≤ xs.length) (hl : xs.length ≤ 1000) :
  Calls Tryz.prog 95 #[v, .int .i64 (i : Int), ve] w (Ret fun v' w' => St B (OwT 3 (insF xs i e) v' :: L) w') := by
 have hx : SlT xs v w := OwT.rd (hS.rd (A := OwT 3 xs v) atx)
 have he : SlT [e] ve w := OwT.rd (hS.rd (A := OwT 3 [e] ve) atx)
 have h1l : ([e] : List Int).length = 1 := rfl
 by_cases hin : i = xs.length
 ·subst hin
  refine enter Tryz.func95 rfl Tryz.ntmps95 rfl (fun a hk => ?_)
  (repeat' (first|((first|refine wx1 ?_|refine wx2 ?_ ?_<;>intro hp|refine s_end hk ?_)<;>(clear hk a;intro a hk))|((first|refine wx3 ?_;intro w b|refine wx4 ?_;intro w|refine wx5 ?_;intro w v);clear hk hS a;intro hS a hk)|refine wx0 ?_|fail))
  refine sg hk (g_partF (i := xs.length) hk ?_ (ht := eT rfl) (hs := (by first | exact St.rdT hS (by assumption) | exact OwT.rd (hS.rd (A := OwT _ _ _) atx) | assumption)) (hE := zT rfl) (hi := by omega));clear hk a;intro vq hvq a hk
  (repeat' (first|((first|refine wx1 ?_|refine wx2 ?_ ?_<;>intro hp|refine s_end hk ?_)<;>(clear hk a;intro a hk))|((first|refine wx3 ?_;intro w b|refine wx4 ?_;intro w|refine wx5 ?_;intro w v);clear hk hS a;intro hS a hk)|refine wx0 ?_|fail))
  refine done1 hk (h := ?_)
  have e1 : insF xs xs.length e = xs ++ [e] := by simp [insF]
  rw [e1]
  exact hS
 ·obtain ⟨b, off, cap, rfl, _, _⟩ := hS.ownCells (E := 3) (xs := xs) At.here (by intro h;subst h;simp at hi hin;exact hin hi)
  obtain ⟨b', off', cap', rfl, _, _⟩ := hS.ownCells (E := 3) (xs := [e]) (At.there At.here) (by simp)
  obtain ⟨vs, hS1, hvl, hnc, hcm, hcl, hvs⟩ := hS.ownPts At.here
  obtain ⟨vs', hS2, hvl', hnc', hcm', hcl', hvs'⟩ := hS1.ownPts (At.there At.here)
  replace hS := hS2
  have hvn : vs ≠ [] := by
   intro h
   rw [h, List.length_nil] at hvl
   have := Nat.le_mul_of_pos_right cap (show 0 < Enc.k Int + 1 by omega)
   omega
  clear hS1 hS2
  by_cases hc : xs.length + 1 ≤ cap
  ·refine enter Tryz.func95 rfl Tryz.ntmps95 rfl (fun a hk => ?_)
   (repeat' (first|((first|refine wx1 ?_|refine wx2 ?_ ?_<;>intro hp|refine s_end hk ?_)<;>(clear hk a;intro a hk))|((first|refine wx3 ?_;intro w b|refine wx4 ?_;intro w|refine wx5 ?_;intro w v);clear hk hS a;intro hS a hk)|refine wx0 ?_|fail))
   refine sg hk (g_partF (i := i) hk ?_ (ht := eT rfl) (hs := (by first | exact St.rdT hS (by assumption) | exact OwT.rd (hS.rd (A := OwT _ _ _) atx) | assumption)) (hE := zT rfl) (hi := by omega));clear hk a;intro vq hvq a hk
   (repeat' (first|((first|refine wx1 ?_|refine wx2 ?_ ?_<;>intro hp|refine s_end hk ?_)<;>(clear hk a;intro a hk))|((first|refine wx3 ?_;intro w b|refine wx4 ?_;intro w|refine wx5 ?_;intro w v);clear hk hS a;intro hS a hk)|refine wx0 ?_|fail))
   refine sg hk (g_capC hk ?_ (ht := eT rfl));clear hk a;intro a hk
   (repeat' (first|((first|refine wx1 ?_|refine wx2 ?_ ?_<;>intro hp|refine s_end hk ?_)<;>(clear hk a;intro a hk))|((first|refine wx3 ?_;intro w b|refine wx4 ?_;intro w|refine wx5 ?_;intro w v);clear hk hS a;intro hS a hk)|refine wx0 ?_|fail))
   refine sg hk (g_slTc (xs.length + 1) (k := Enc.k Int) hk ?_ (ht := eT rfl) (hE := zT rfl) (hp := by omega) (hj := by omega));clear hk a;intro a hk
   (repeat' (first|((first|refine wx1 ?_|refine wx2 ?_ ?_<;>intro hp|refine s_end hk ?_)<;>(clear hk a;intro a hk))|((first|refine wx3 ?_;intro w b|refine wx4 ?_;intro w|refine wx5 ?_;intro w v);clear hk hS a;intro hS a hk)|refine wx0 ?_|fail))
   refine sg hk (g_slFc (i + 1) (k := Enc.k Int) hk ?_ (ht := eT rfl) (hE := zT rfl) (hp := by omega) (him := by omega) (hc := by omega));clear hk a;intro a hk
   (repeat' (first|((first|refine wx1 ?_|refine wx2 ?_ ?_<;>intro hp|refine s_end hk ?_)<;>(clear hk a;intro a hk))|((first|refine wx3 ?_;intro w b|refine wx4 ?_;intro w|refine wx5 ?_;intro w v);clear hk hS a;intro hS a hk)|refine wx0 ?_|fail))
   refine sg hk (g_ovl hk hS ?_ (hf := Tryz.func124) (hname := by kernel_rfl) (hb := by kernel_rfl) (hn := by kernel_rfl) (he := by kernel_rfl) (ht := eT rfl) (hE := zT rfl) (tS := 60) (tR := 4) (hne := hvn));clear hk a;intro a hk
   (repeat' (first|((first|refine wx1 ?_|refine wx2 ?_ ?_<;>intro hp|refine s_end hk ?_)<;>(clear hk a;intro a hk))|((first|refine wx3 ?_;intro w b|refine wx4 ?_;intro w|refine wx5 ?_;intro w v);clear hk hS a;intro hS a hk)|refine wx0 ?_|fail))
   replace hS := hS.sub (.cons (.there .here) (.cons .here .refl))
   refine wp_drawnU1 9 mixed (by kernel_rfl) hk hS ?_;clear hk hS a
   (repeat' (first|(show ObxE _ _ _ _ _ _ _ _ _ (_::_) _ _ _;first|refine ox1 ?_|refine ox2 ?_ ?_<;>intro hp)|fail))
   refine' obe_val (fun us a w hk hd hS => ?_) ?_;rotate_left;focus (have hk := Kn.vw hk vwx;exact g_slFc (i + 1) (k := Enc.k Int) hk (same _ _) (ht := eT rfl) (hE := zT rfl) (hp := by omega) (him := by omega) (hc := by omega))
   (repeat' (first|(show ObxE _ _ _ _ _ _ _ _ _ (_::_) _ _ _;first|refine ox1 ?_|refine ox2 ?_ ?_<;>intro hp)|fail))
   refine' obe_val (fun us a w hk hd hS => ?_) ?_;rotate_left;focus (have hk := Kn.vw hk vwx;exact g_slFc i (k := Enc.k Int) hk (same _ _) (ht := eT rfl) (hE := zT rfl) (hp := by omega) (him := by omega) (hc := by omega))
   (repeat' (first|(show ObxE _ _ _ _ _ _ _ _ _ (_::_) _ _ _;first|refine ox1 ?_|refine ox2 ?_ ?_<;>intro hp)|fail))
   refine' obe_upd (pts b vs 3) (V := fun _ => pts b (splice vs (off + (i + 1) * (Enc.k Int + 1)) (enc (xs.drop i))) 3) (fun us a w X hk hd hS hL => ?_) ?_
   ·have hk := Kn.vw hk vwx
    exact g_copyC (E := 3) (k := Enc.k Int) hk hS (fun w' hS' => hS') (q := xs.length - i) (ht := eT rfl) (hE := zT rfl) (hq := by simp only [Nat.min_def];split <;> omega) (hl := by rw [enc_len, List.length_drop]) (hsrc := Cells.dropT i (pts.block (hS.rd At.here)) hvs) (h1 := enc_one _)
     (hfit := by rw [enc_len, List.length_drop, Nat.add_assoc, ← Nat.add_mul];exact Nat.le_trans (Nat.add_le_add_left (Nat.mul_le_mul_right _ (by omega)) _) hvl)
   (repeat' (first|(show ObxE _ _ _ _ _ _ _ _ _ (_::_) _ _ _;first|refine ox1 ?_|refine ox2 ?_ ?_<;>intro hp)|fail))
   refine obe_nil ⟨rfl, ?_⟩;intro us a w hk hS
   simp only [resE] at hS
   (repeat' (first|((first|refine wx1 ?_|refine wx2 ?_ ?_<;>intro hp|refine s_end hk ?_)<;>(clear hk a;intro a hk))|((first|refine wx3 ?_;intro w b|refine wx4 ?_;intro w|refine wx5 ?_;intro w v);clear hk hS a;intro hS a hk)|refine wx0 ?_|fail))
   refine sg hk (g_slFc i (k := Enc.k Int) hk ?_ (ht := eT rfl) (hE := zT rfl) (hp := by omega) (him := by omega) (hc := by omega));clear hk a;intro a hk
   (repeat' (first|((first|refine wx1 ?_|refine wx2 ?_ ?_<;>intro hp|refine s_end hk ?_)<;>(clear hk a;intro a hk))|((first|refine wx3 ?_;intro w b|refine wx4 ?_;intro w|refine wx5 ?_;intro w v);clear hk hS a;intro hS a hk)|refine wx0 ?_|fail))
   refine sg hk (g_copyC (E := 3) (k := Enc.k Int) hk hS ?_ (q := 1) (ht := eT rfl) (hE := zT rfl) (hq := by simp only [Nat.min_def];split <;> omega) (hl := by rw [Enc.len, Nat.one_mul]) (hsrc := ?_) (h1 := Enc.one e) (hfit := ?_))
   rotate_left
   ·have := Cells.takeT (xs := [e]) 1 (pts.block (hS.rd (A := pts b' vs' 3) atx)) hvs'
    rwa [List.take_of_length_le (by rw [h1l];exact Nat.le_refl 1), enc_single] at this
   ·rw [splice_len, Enc.len, Nat.add_assoc, ← Nat.succ_mul]
    exact Nat.le_trans (Nat.add_le_add_left (Nat.mul_le_mul_right _ (by omega)) _) hvl
   clear hk hS a
   intro w hS a hk
   (repeat' (first|((first|refine wx1 ?_|refine wx2 ?_ ?_<;>intro hp|refine s_end hk ?_)<;>(clear hk a;intro a hk))|((first|refine wx3 ?_;intro w b|refine wx4 ?_;intro w|refine wx5 ?_;intro w v);clear hk hS a;intro hS a hk)|refine wx0 ?_|fail))
   obtain ⟨hl0, hc0⟩ := ins_cells (xs := xs) (i := i) (off := off) (e := e) (vs := vs) (by omega) (Nat.le_trans (Nat.add_le_add_left (Nat.mul_le_mul_right _ hc) _) hvl) (fun j u hj => by
    rw [← enc_take, List.getElem?_take] at hj
    split at hj
    ·exact hvs j u hj
    ·cases hj) (.inl rfl)
   have hF := hS.toOwn (ys := insF xs i e) At.here (by rw [insF_len hi];exact hc) hcm (by rw [hl0];exact hvl) hc0
   rw [insF_len hi] at hF
   exact done1 hk (h := hF.sub (.cons .here Sub.cons_drop))
  ·refine enter Tryz.func95 rfl Tryz.ntmps95 rfl (fun a hk => ?_)
   (repeat' (first|((first|refine wx1 ?_|refine wx2 ?_ ?_<;>intro hp|refine s_end hk ?_)<;>(clear hk a;intro a hk))|((first|refine wx3 ?_;intro w b|refine wx4 ?_;intro w|refine wx5 ?_;intro w v);clear hk hS a;intro hS a hk)|refine wx0 ?_|fail))
   refine sg hk (g_partF (i := i) hk ?_ (ht := eT rfl) (hs := (by first | exact St.rdT hS (by assumption) | exact OwT.rd (hS.rd (A := OwT _ _ _) atx) | assumption)) (hE := zT rfl) (hi := by omega));clear hk a;intro vq hvq a hk
   (repeat' (first|((first|refine wx1 ?_|refine wx2 ?_ ?_<;>intro hp|refine s_end hk ?_)<;>(clear hk a;intro a hk))|((first|refine wx3 ?_;intro w b|refine wx4 ?_;intro w|refine wx5 ?_;intro w v);clear hk hS a;intro hS a hk)|refine wx0 ?_|fail))
   refine sg hk (g_capC hk ?_ (ht := eT rfl));clear hk a;intro a hk
   (repeat' (first|((first|refine wx1 ?_|refine wx2 ?_ ?_<;>intro hp|refine s_end hk ?_)<;>(clear hk a;intro a hk))|((first|refine wx3 ?_;intro w b|refine wx4 ?_;intro w|refine wx5 ?_;intro w v);clear hk hS a;intro hS a hk)|refine wx0 ?_|fail))
   refine sg hk (g_slTc i (k := Enc.k Int) hk ?_ (ht := eT rfl) (hE := zT rfl) (hp := by omega) (hj := by omega));clear hk a;intro a hk
   (repeat' (first|((first|refine wx1 ?_|refine wx2 ?_ ?_<;>intro hp|refine s_end hk ?_)<;>(clear hk a;intro a hk))|((first|refine wx3 ?_;intro w b|refine wx4 ?_;intro w|refine wx5 ?_;intro w v);clear hk hS a;intro hS a hk)|refine wx0 ?_|fail))
   refine sg hk (g_appZ (cs := enc (xs.take i)) (i := i) (q := xs.length + 1 - i) (k := Enc.k Int) hk hS ?_ (hp := by omega) (ht := eT rfl) (htx := iT rfl) (hE := zT rfl) (hz := oT rfl) (hzs := rfl) (hz1 := by decide) (hby := bT rfl) (h0 := by omega) (hc := by omega) (hl := by rw [enc_len, List.length_take, Nat.min_eq_left hi]) (hcs := Cells.takeT i (pts.block (hS.rd (A := pts b vs 3) atx)) hvs) (h1 := enc_one _) (hbytes := by omega) (h63 := by simp only [maxLen];omega))
   clear hk hS a
   intro w b2 c2 zs hg1 hg2 hg3 hg4 hg5 hS a hk
   rw [show i + (xs.length + 1 - i) = xs.length + 1 by omega] at hk hg1
   (repeat' (first|((first|refine wx1 ?_|refine wx2 ?_ ?_<;>intro hp|refine s_end hk ?_)<;>(clear hk a;intro a hk))|((first|refine wx3 ?_;intro w b|refine wx4 ?_;intro w|refine wx5 ?_;intro w v);clear hk hS a;intro hS a hk)|refine wx0 ?_|fail))
   refine sg hk (g_slFc i (k := Enc.k Int) hk ?_ (ht := eT rfl) (hE := zT rfl) (hp := by omega) (him := by omega) (hc := by omega));clear hk a;intro a hk
   (repeat' (first|((first|refine wx1 ?_|refine wx2 ?_ ?_<;>intro hp|refine s_end hk ?_)<;>(clear hk a;intro a hk))|((first|refine wx3 ?_;intro w b|refine wx4 ?_;intro w|refine wx5 ?_;intro w v);clear hk hS a;intro hS a hk)|refine wx0 ?_|fail))
   refine sg hk (g_copyC (E := 3) (k := Enc.k Int) hk hS ?_ (q := 1) (ht := eT rfl) (hE := zT rfl) (hq := by simp only [Nat.min_def];split <;> omega) (hl := by rw [Enc.len, Nat.one_mul]) (hsrc := ?_) (h1 := Enc.one e) (hfit := ?_))
   rotate_left
   ·have := Cells.takeT (xs := [e]) 1 (pts.block (hS.rd (A := pts b' vs' 3) atx)) hvs'
    rwa [List.take_of_length_le (by rw [h1l];exact Nat.le_refl 1), enc_single] at this
   ·rw [Enc.len, Nat.add_assoc, ← Nat.succ_mul, Nat.zero_add, hg3]
    exact Nat.mul_le_mul_right _ (by omega)
   clear hk hS a
   intro w hS a hk
   (repeat' (first|((first|refine wx1 ?_|refine wx2 ?_ ?_<;>intro hp|refine s_end hk ?_)<;>(clear hk a;intro a hk))|((first|refine wx3 ?_;intro w b|refine wx4 ?_;intro w|refine wx5 ?_;intro w v);clear hk hS a;intro hS a hk)|refine wx0 ?_|fail))
   refine wp_drawnU1 9 mixed (by kernel_rfl) hk hS ?_;clear hk hS a
   (repeat' (first|(show ObxE _ _ _ _ _ _ _ _ _ (_::_) _ _ _;first|refine ox1 ?_|refine ox2 ?_ ?_<;>intro hp)|fail))
   refine' obe_val (fun us a w hk hd hS => ?_) ?_;rotate_left;focus (have hk := Kn.vw hk vwx;exact g_slFc (i + 1) (k := Enc.k Int) hk (same _ _) (ht := eT rfl) (hE := zT rfl) (hp := by omega) (him := by omega) (hc := by omega))
   (repeat' (first|(show ObxE _ _ _ _ _ _ _ _ _ (_::_) _ _ _;first|refine ox1 ?_|refine ox2 ?_ ?_<;>intro hp)|fail))
   refine' obe_val (fun us a w hk hd hS => ?_) ?_;rotate_left;focus (have hk := Kn.vw hk vwx;exact g_slFc i (k := Enc.k Int) hk (same _ _) (ht := eT rfl) (hE := zT rfl) (hp := by omega) (him := by omega) (hc := by omega))
   (repeat' (first|(show ObxE _ _ _ _ _ _ _ _ _ (_::_) _ _ _;first|refine ox1 ?_|refine ox2 ?_ ?_<;>intro hp)|fail))
   refine' obe_upd (pts b2 (splice zs (0 + i * (Enc.k Int + 1)) (Enc.f e)) 3) (V := fun _ => pts b2 (splice (splice zs (0 + i * (Enc.k Int + 1)) (Enc.f e)) (0 + (i + 1) * (Enc.k Int + 1)) (enc (xs.drop i))) 3) (fun us a w X hk hd hS hL => ?_) ?_
   ·have hk := Kn.vw hk vwx
    exact g_copyC (E := 3) (k := Enc.k Int) hk hS (fun w' hS' => hS') (q := xs.length - i) (ht := eT rfl) (hE := zT rfl) (hq := by simp only [Nat.min_def];split <;> omega) (hl := by rw [enc_len, List.length_drop]) (hsrc := Cells.dropT i (pts.block (hL.rd (A := pts b vs 3) atx)) hvs) (h1 := enc_one _)
     (hfit := by rw [splice_len, enc_len, List.length_drop, Nat.add_assoc, ← Nat.add_mul, Nat.zero_add, hg3];exact Nat.mul_le_mul_right _ (by omega))
   (repeat' (first|(show ObxE _ _ _ _ _ _ _ _ _ (_::_) _ _ _;first|refine ox1 ?_|refine ox2 ?_ ?_<;>intro hp)|fail))
   refine obe_nil ⟨rfl, ?_⟩;intro us a w hk hS
   simp only [resE] at hS
   (repeat' (first|((first|refine wx1 ?_|refine wx2 ?_ ?_<;>intro hp|refine s_end hk ?_)<;>(clear hk a;intro a hk))|((first|refine wx3 ?_;intro w b|refine wx4 ?_;intro w|refine wx5 ?_;intro w v);clear hk hS a;intro hS a hk)|refine wx0 ?_|fail))
   obtain ⟨hl0, hc0⟩ := ins_cells (xs := xs) (i := i) (off := 0) (e := e) (vs := zs) (by omega) (by rw [Nat.zero_add, hg3];exact Nat.mul_le_mul_right _ hg1) (fun j u hj => by rw [Nat.zero_add];exact hg4 j u hj) (.inr rfl)
   have hF := hS.toOwn (ys := insF xs i e) At.here (by rw [insF_len hi];exact hg1) hg2 (by rw [hl0, Nat.zero_add, hg3];exact Nat.le_refl _) hc0
   rw [insF_len hi] at hF
   exact done1 hk (h := hF.sub (.cons .here (Sub.under Sub.cons_drop)))
theorem put_comm {l : List NodeP} {x y : NodeP} (h : x.id ≠ y.id) : putP (putP l x) y = putP (putP l y) x := by
 unfold putP
 rw [List.map_map, List.map_map]
 refine List.map_congr_left fun z _ => ?_
 simp only [Function.comp]
 by_cases h1 : z.id = x.id
 ·rw [if_pos h1, if_neg h, if_neg (fun e => h (h1.symm.trans e)), if_pos h1]
 ·rw [if_neg h1]
  by_cases h2 : z.id = y.id
  ·rw [if_pos h2, if_neg (Ne.symm h)]
  ·rw [if_neg h2, if_neg h1]
theorem put_out {l : List NodeP} {x : NodeP} {id : Int} (h : x.id ≠ id) : putP (ousP l id) x = ousP (putP l x) id := by
 unfold putP ousP
 induction l with
 | nil => rfl
 | cons z l ih =>
  rw [List.filter_cons, List.map_cons, List.filter_cons]
  by_cases h1 : z.id = id
  ·have hz : ¬ z.id = x.id := fun e => h (e.symm.trans h1)
   have d1 : decide (z.id ≠ id) = false := by simp [h1]
   rw [if_neg hz, d1, if_neg (by decide)]
   exact ih
  ·have d1 : decide (z.id ≠ id) = true := by simpa using h1
   have d2 : decide (x.id ≠ id) = true := by simpa using h
   rw [d1, if_pos rfl, List.map_cons, ih]
   by_cases h2 : z.id = x.id
   ·rw [if_pos h2, d2, if_pos rfl]
   ·rw [if_neg h2, d1, if_pos rfl]
section
variable {B : Bs} {w : World} {L L' : List HP} {bl : Int → Nat} {bd bm : Nat} {D : DomP}
abbrev domO2 (bd : Nat) (D : DomP) (bm : Nat) (bl : Int → Nat) (i j : Int) : List HP := [pts bd (domC5 D bm) 90, mapH encI (.map (some bm)) (mapL bl D.l), ndsH bl (ousP (ousP D.l i) j)]
theorem St.outD2 (hS : St B (domL bd D bm bl ++ L) w) (hu : (D.l.map (·.id)).Nodup) {i j : Int} {p n : NodeP} (hp : D.f i = some p) (hn : D.f j = some n) (hij : j ≠ i) :
  St B (nodH (bl i) p :: nodH (bl j) n :: (domO2 bd D bm bl i j ++ L)) w := by
 have h1 := hS.outD hu hp
 have h2 : fnP (ousP D.l i) j = some n := by rw [out_f, if_neg hij];exact hn
 have h3 := h1.out (bl := bl) (l := ousP D.l i) (.there (.there (.there .here))) (out_uni hu i) h2
 exact h3.sub (.cons (.there (.there .here)) (.cons .here (.cons (.there .here) (.cons (.there .here) (.cons .here .refl)))))
theorem nod2 {b c : Nat} {p n : NodeP} {y z : NoA} (h : St B (nodeL b p y ++ (nodeL c n z ++ L)) w) : St B (nodH b p :: nodH c n :: L) w :=
 (nodH.of ((nodH.of h).perm List.perm_middle.symm)).perm (.swap _ _ _)
theorem domL.put2 {i j : Int} {p p' n n' : NodeP} (hu : (D.l.map (·.id)).Nodup) (hp : D.f i = some p) (hn : D.f j = some n) (hij : j ≠ i) (ep : p'.id = i) (en : n'.id = j)
  (hS : St B (nodH (bl i) p' :: nodH (bl j) n' :: (domO2 bd D bm bl i j ++ L)) w) : St B (domL bd { D with l := putP (putP D.l p') n' } bm bl ++ L) w := by
 subst ep en
 have h2 : fnP (ousP D.l p'.id) n'.id = some n := by rw [out_f, if_neg hij];exact hn
 have h3 : St B (ndsH bl (putP (ousP D.l p'.id) n') :: nodH (bl p'.id) p' :: pts bd (domC5 D bm) 90 :: mapH encI (.map (some bm)) (mapL bl D.l) :: L) w :=
  ndsH.put (out_uni hu _) h2 (hS.sub (.cons (.there .here) (.cons (.there (.there (.there .here))) (.cons .here (.cons .here (.cons .here .refl))))))
 rw [put_out hij] at h3
 have h4 : fnP (putP D.l n') p'.id = some p := by rw [fnd_put_some (n := n') (m := n) hn, if_neg (Ne.symm hij)];exact hp
 have h5 : St B (ndsH bl (putP (putP D.l n') p') :: pts bd (domC5 D bm) 90 :: mapH encI (.map (some bm)) (mapL bl D.l) :: L) w :=
  ndsH.put (by rw [put_ids];exact hu) h4 (h3.sub (.cons (.there .here) (.cons .here .refl)))
 rw [put_comm hij] at h5
 show St B (pts bd (domC5 D bm) 90 :: mapH encI (.map (some bm)) (mapL bl (putP (putP D.l p') n')) :: ndsH bl (putP (putP D.l p') n') :: L) w
 rw [mapL_put, mapL_put]
 exact h5.sub (.cons (.there .here) (.cons (.there .here) (.cons .here .refl)))
end
section
variable {B : Bs} {w : World} {L : List HP} {bd : Nat} {D : DomP} {K : Nat}
theorem insP_11 {parent at_ id : Int} (h : D.f parent = none ∨ D.f id = none) : insP D parent at_ id = (D, 11) := by
 unfold insP
 split
 ·rename_i h1 h2
  rcases h with h | h
  ·rw [h] at h1;cases h1
  ·rw [h] at h2;cases h2
 ·rfl
theorem insP_14 {parent at_ id : Int} {p n : NodeP} (hp : D.f parent = some p) (hn : D.f id = some n) (hk : p.kind ≠ 2) : insP D parent at_ id = (D, 14) := by
 unfold insP
 rw [hp, hn]
 simp only
 rw [if_pos hk]
theorem insP_1 {parent at_ id : Int} {p n : NodeP} (hp : D.f parent = some p) (hn : D.f id = some n) (hk : p.kind = 2) (h : id = 0 ∨ n.par ≠ -1 ∨ Win D.f id parent ∨ at_ < 0 ∨ at_ > p.kids.length) : insP D parent at_ id = (D, 1) := by
 unfold insP
 rw [hp, hn]
 simp only
 rw [if_neg (fun h => h hk), if_pos h]
theorem insP_0 {parent at_ id : Int} {p n : NodeP} (hp : D.f parent = some p) (hn : D.f id = some n) (hk : p.kind = 2) (h : ¬ (id = 0 ∨ n.par ≠ -1 ∨ Win D.f id parent ∨ at_ < 0 ∨ at_ > p.kids.length)) :
  insP D parent at_ id = ({ D with l := putP (putP D.l { p with kids := insF p.kids at_.toNat id }) { n with par := parent } }, 0) := by
 unfold insP
 rw [hp, hn]
 simp only
 rw [if_neg (fun h => h hk), if_neg h]
set_option maxHeartbeats 8000000 in
theorem ins5_any (parent at_ id : Int) (hW : WfD D) (hb : Bnd K D) (hK : K ≤ 800) (hS : St B (domH bd D :: L) w) :
  Calls Tryz.prog 59 #[pA bd, .int .i64 parent, .int .i64 at_, .int .i64 id] w (Ret fun r w' => r = .int .i64 (insP D parent at_ id).2 ∧ St B (domH bd (insP D parent at_ id).1 :: L) w') := by
 obtain ⟨bm, bl, hS1⟩ := hS.dom (bd := bd) (D := D) .here
 clear hS
 have hS := hS1
 clear hS1
 have hback : ∀ {w : World}, St B (domL bd D bm bl ++ L) w → St B (domH bd D :: L) w := fun h => domH.of h
 refine enter Tryz.func59 rfl Tryz.ntmps59 rfl (fun a hk => ?_)
 (repeat' (first|((first|refine wx1 ?_|refine wx2 ?_ ?_<;>intro hp|refine s_end hk ?_)<;>(clear hk a;intro a hk))|((first|refine wx3 ?_;intro w b|refine wx4 ?_;intro w|refine wx5 ?_;intro w v);clear hk hS a;intro hS a hk)|refine wx0 ?_|fail))
 refine wp_drawn 14 mixed (by kernel_rfl) hk hS ?_;clear hk hS a
 (repeat' (first|(show ObxE _ _ _ _ _ _ _ _ _ (_::_) _ _ _;first|refine ox1 ?_|refine ox2 ?_ ?_<;>intro hp)|fail))
 refine' obe_val (fun us a w hk hd hS => ?_) ?_;rotate_left;focus (have hk := Kn.vw hk vwx;exact g_lk5 hk (hS.rd (A := mapH encI (.map (some bm)) (mapL bl D.l)) atx) (same _ _))
 (repeat' (first|(show ObxE _ _ _ _ _ _ _ _ _ (_::_) _ _ _;first|refine ox1 ?_|refine ox2 ?_ ?_<;>intro hp)|fail))
 refine' obe_val (fun us a w hk hd hS => ?_) ?_;rotate_left;focus (have hk := Kn.vw hk vwx;exact g_lk5 hk (hS.rd (A := mapH encI (.map (some bm)) (mapL bl D.l)) atx) (same _ _))
 (repeat' (first|(show ObxE _ _ _ _ _ _ _ _ _ (_::_) _ _ _;first|refine ox1 ?_|refine ox2 ?_ ?_<;>intro hp)|fail))
 refine obe_nil ⟨rfl, ?_⟩;intro us a w hk hS
 replace hk := Kn.kp [0, 1, 2, 3, 9, 10] hk
 simp only [HV.of] at hk
 simp only [resE, List.nil_append] at hS
 cases hp : D.f parent with
 | none =>
  rw [insP_11 (.inl hp)]
  rw [pO_none hp] at hk
  (repeat' (first|((first|refine wx1 ?_|refine wx2 ?_ ?_<;>intro hp|refine s_end hk ?_)<;>(clear hk a;intro a hk))|((first|refine wx3 ?_;intro w b|refine wx4 ?_;intro w|refine wx5 ?_;intro w v);clear hk hS a;intro hS a hk)|refine wx0 ?_|fail))
  refine sg hk (g_pnE hk ?_ (by kernel_rfl));clear hk a;intro a hk
  simp only [Option.isNone_none] at hk
  (repeat' (first|((first|refine wx1 ?_|refine wx2 ?_ ?_<;>intro hp|refine s_end hk ?_)<;>(clear hk a;intro a hk))|((first|refine wx3 ?_;intro w b|refine wx4 ?_;intro w|refine wx5 ?_;intro w v);clear hk hS a;intro hS a hk)|refine wx0 ?_|fail))
  exact done1 hk (h := ⟨rfl, hback hS⟩)
 | some p =>
  rw [pO_some hp] at hk
  cases hn : D.f id with
  | none =>
   rw [insP_11 (.inr hn)]
   rw [pO_none hn] at hk
   (repeat' (first|((first|refine wx1 ?_|refine wx2 ?_ ?_<;>intro hp|refine s_end hk ?_)<;>(clear hk a;intro a hk))|((first|refine wx3 ?_;intro w b|refine wx4 ?_;intro w|refine wx5 ?_;intro w v);clear hk hS a;intro hS a hk)|refine wx0 ?_|fail))
   refine sg hk (g_pnE hk ?_ (by kernel_rfl));clear hk a;intro a hk
   simp only [Option.isNone_some] at hk
   (repeat' (first|((first|refine wx1 ?_|refine wx2 ?_ ?_<;>intro hp|refine s_end hk ?_)<;>(clear hk a;intro a hk))|((first|refine wx3 ?_;intro w b|refine wx4 ?_;intro w|refine wx5 ?_;intro w v);clear hk hS a;intro hS a hk)|refine wx0 ?_|fail))
   refine sg hk (g_pnE hk ?_ (by kernel_rfl));clear hk a;intro a hk
   simp only [Option.isNone_none] at hk
   (repeat' (first|((first|refine wx1 ?_|refine wx2 ?_ ?_<;>intro hp|refine s_end hk ?_)<;>(clear hk a;intro a hk))|((first|refine wx3 ?_;intro w b|refine wx4 ?_;intro w|refine wx5 ?_;intro w v);clear hk hS a;intro hS a hk)|refine wx0 ?_|fail))
   exact done1 hk (h := ⟨rfl, hback hS⟩)
  | some n =>
   rw [pO_some hn] at hk
   (repeat' (first|((first|refine wx1 ?_|refine wx2 ?_ ?_<;>intro hp|refine s_end hk ?_)<;>(clear hk a;intro a hk))|((first|refine wx3 ?_;intro w b|refine wx4 ?_;intro w|refine wx5 ?_;intro w v);clear hk hS a;intro hS a hk)|refine wx0 ?_|fail))
   refine sg hk (g_pnE hk ?_ (by kernel_rfl));clear hk a;intro a hk
   simp only [Option.isNone_some] at hk
   (repeat' (first|((first|refine wx1 ?_|refine wx2 ?_ ?_<;>intro hp|refine s_end hk ?_)<;>(clear hk a;intro a hk))|((first|refine wx3 ?_;intro w b|refine wx4 ?_;intro w|refine wx5 ?_;intro w v);clear hk hS a;intro hS a hk)|refine wx0 ?_|fail))
   refine sg hk (g_pnE hk ?_ (by kernel_rfl));clear hk a;intro a hk
   simp only [Option.isNone_some] at hk
   have hDR : DomR bd D bm bl w := hS.domR
   obtain ⟨a1, c1, a2, c2, a3, c3, a4, c4, h0, -⟩ := nodH.get (hDR.nd hp)
   obtain ⟨a5, c5, a6, c6, a7, c7, a8, c8, h5, -⟩ := nodH.get (hDR.nd hn)
   simp only [nodC] at h0 h5
   by_cases hk2 : p.kind = 2
   ·by_cases i0 : id = 0
    ·rw [insP_1 hp hn hk2 (.inl i0)]
     (repeat' (first|((first|refine wx1 ?_|refine wx2 ?_ ?_<;>intro hp|refine s_end hk ?_)<;>(clear hk a;intro a hk))|((first|refine wx3 ?_;intro w b|refine wx4 ?_;intro w|refine wx5 ?_;intro w v);clear hk hS a;intro hS a hk)|refine wx0 ?_|fail))
     exact done1 hk (h := ⟨rfl, hback hS⟩)
    ·by_cases i1 : n.par = -1
     ·(repeat' (first|((first|refine wx1 ?_|refine wx2 ?_ ?_<;>intro hp|refine s_end hk ?_)<;>(clear hk a;intro a hk))|((first|refine wx3 ?_;intro w b|refine wx4 ?_;intro w|refine wx5 ?_;intro w v);clear hk hS a;intro hS a hk)|refine wx0 ?_|fail))
      refine sg hk (g_callO hk (hf := by kernel_rfl) (hc := within5_any (bd := bd) (bm := bm) (bl := bl) (D := D) parent id _ hS.domR hW) (h := ?_));clear hk a;rintro vr w ⟨bw, rfl, hbw, hS1⟩ a hk;replace hS := hS.call hS1;clear hS1
      rw [List.nil_append] at hS
      clear h0 h5 hDR
      have hDR : DomR bd D bm bl w := hS.domR
      obtain ⟨a1, c1, a2, c2, a3, c3, a4, c4, h0, h1, h2, h3, h4⟩ := nodH.get (hDR.nd hp)
      simp only [nodC] at h0
      cases bw with
      | true =>
       rw [insP_1 hp hn hk2 (.inr (.inr (.inl (hbw.1 rfl))))]
       (repeat' (first|((first|refine wx1 ?_|refine wx2 ?_ ?_<;>intro hp|refine s_end hk ?_)<;>(clear hk a;intro a hk))|((first|refine wx3 ?_;intro w b|refine wx4 ?_;intro w|refine wx5 ?_;intro w v);clear hk hS a;intro hS a hk)|refine wx0 ?_|fail))
       exact done1 hk (h := ⟨rfl, hback hS⟩)
      | false =>
       have hnw : ¬ Win D.f id parent := fun h => by have := hbw.2 h;cases this
       by_cases i2 : at_ < 0
       ·rw [insP_1 hp hn hk2 (.inr (.inr (.inr (.inl i2))))]
        (repeat' (first|((first|refine wx1 ?_|refine wx2 ?_ ?_<;>intro hp|refine s_end hk ?_)<;>(clear hk a;intro a hk))|((first|refine wx3 ?_;intro w b|refine wx4 ?_;intro w|refine wx5 ?_;intro w v);clear hk hS a;intro hS a hk)|refine wx0 ?_|fail))
        exact done1 hk (h := ⟨rfl, hback hS⟩)
       ·by_cases i3 : at_ > p.kids.length
        ·rw [insP_1 hp hn hk2 (.inr (.inr (.inr (.inr i3))))]
         (repeat' (first|((first|refine wx1 ?_|refine wx2 ?_ ?_<;>intro hp|refine s_end hk ?_)<;>(clear hk a;intro a hk))|((first|refine wx3 ?_;intro w b|refine wx4 ?_;intro w|refine wx5 ?_;intro w v);clear hk hS a;intro hS a hk)|refine wx0 ?_|fail))
         exact done1 hk (h := ⟨rfl, hback hS⟩)
        ·rw [insP_0 hp hn hk2 (by simp only [not_or];exact ⟨i0, fun h => h i1, hnw, i2, i3⟩)]
         clear h0 h1 h2 h3 h4 hDR
         have hne : id ≠ parent := fun e => hnw (by rw [e];exact .refl hp)
         have bk := (hb.get hp).kids
         obtain ⟨i, rfl⟩ : ∃ i : Nat, at_ = i := ⟨at_.toNat, by omega⟩
         rw [Int.toNat_natCast]
         have hS1 := hS.outD2 hW.uni hp hn hne
         clear hS
         obtain ⟨a1, c1, a2, c2, a3, c3, a4, c4, hS⟩ := hS1.nod (b := bl parent) (n := p) .here
         clear hS1
         obtain ⟨a5, c5, a6, c6, a7, c7, a8, c8, hS1⟩ := hS.nod (b := bl id) (n := n) (by simp only [nodeL, List.cons_append, List.nil_append];exact atx)
         clear hS
         have hS := hS1
         clear hS1
         simp only [nodeL, nodC, domO2, domC5, List.cons_append, List.nil_append] at hS
         (repeat' (first|((first|refine wx1 ?_|refine wx2 ?_ ?_<;>intro hp|refine s_end hk ?_)<;>(clear hk a;intro a hk))|((first|refine wx3 ?_;intro w b|refine wx4 ?_;intro w|refine wx5 ?_;intro w v);clear hk hS a;intro hS a hk)|refine wx0 ?_|fail))
         rename Value => v73
         refine sg hk (g_callO hk (hf := by kernel_rfl) (hc := insI5_any (xs := p.kids) (e := id) (i := i) (hS.sub (.cons atx (.cons atx (by repeat (first | exact Sub.refl | apply Sub.under))))) (by omega) (by omega)) (h := ?_));clear hk hS a;intro vn w hS a hk
         obtain ⟨aovn, cvn, hshp, _⟩ := (OwT.rd (hS.rd (A := OwT 3 _ vn) atx)).shape;subst hshp
         (repeat' (first|((first|refine wx1 ?_|refine wx2 ?_ ?_<;>intro hp|refine s_end hk ?_)<;>(clear hk a;intro a hk))|((first|refine wx3 ?_;intro w b|refine wx4 ?_;intro w|refine wx5 ?_;intro w v);clear hk hS a;intro hS a hk)|refine wx0 ?_|fail))
         refine done1 hk (h := ⟨rfl, domH.of (bm := bm) (bl := bl) (domL.put2 (p' := { p with kids := insF p.kids i id }) (n' := { n with par := parent }) hW.uni hp hn hne (fnd_id hp :) (fnd_id hn :) (nod2 (y := ((a1, c1), (a2, c2), (a3, c3), (aovn, cvn))) (z := ((a5, c5), (a6, c6), (a7, c7), (a8, c8))) ?_))⟩)
         simp only [nodeL, nodC, domO2, domC5, List.cons_append, List.nil_append]
         exact hS.sub (.cons atx (.cons atx (.cons atx (.cons atx (.cons atx (.cons atx (.cons atx (.cons atx (.cons atx (.cons atx (.cons atx (.cons atx (.cons atx sbx)))))))))))))
     ·rw [insP_1 hp hn hk2 (.inr (.inl i1))]
      (repeat' (first|((first|refine wx1 ?_|refine wx2 ?_ ?_<;>intro hp|refine s_end hk ?_)<;>(clear hk a;intro a hk))|((first|refine wx3 ?_;intro w b|refine wx4 ?_;intro w|refine wx5 ?_;intro w v);clear hk hS a;intro hS a hk)|refine wx0 ?_|fail))
      exact done1 hk (h := ⟨rfl, hback hS⟩)
   ·rw [insP_14 hp hn hk2]
    (repeat' (first|((first|refine wx1 ?_|refine wx2 ?_ ?_<;>intro hp|refine s_end hk ?_)<;>(clear hk a;intro a hk))|((first|refine wx3 ?_;intro w b|refine wx4 ?_;intro w|refine wx5 ?_;intro w v);clear hk hS a;intro hS a hk)|refine wx0 ?_|fail))
    exact done1 hk (h := ⟨rfl, hback hS⟩)
end
end Go.Proofs.YtnjmonkehjlaoaaGreatDoor
namespace Go.Proofs.YtnjmonkehjlaoaaGreatDoor
open Go.RowKit
set_option maxRecDepth 100000
attribute [local irreducible] Go.Code.wpIn Go.wpListIn Go.Calls Gives Go.Exit.then Go.Exit.inBlock Done ObxE
section
variable {a : Act} {w : World} {n : Nat} {l : List (Nat × Value)} {df : List Deferred}
 {dst : Option Nat} {ty : TypeId} {pos : String} {af : Array Edge} {g : Option (Nat × Bool)} {R : Value → World → Prop}
theorem g_lk5S {x y : Operand} {v : Value} {id : Int} {bl : Int → Nat} {ns : List NodeP} {m : NodeP} (hk : Kn df n a l) (hm : (mapH encI v (mapL bl ns)).rd w) (hn : fnP ns id = some m) (h : R (pA (bl id)) w)
  (hx : ev l x = some v := by rfl) (hy : ev l y = some (.int .i64 id) := by rfl) : Gives Tryz.prog ⟨dst, .lookup 88 x y false, ty, pos, af, g⟩ a w R :=
 g_lk5 hk hm (by rw [pO_some (f := fnP ns) hn];exact h) hx hy
end
section
variable {B : Bs} {w : World} {L : List HP} {bd bm : Nat} {bl : Int → Nat} {D : DomP} {K : Nat}
end
end Go.Proofs.YtnjmonkehjlaoaaGreatDoor
namespace Go.Proofs.YtnjmonkehjlaoaaGreatDoor
open Go.RowKit
set_option maxRecDepth 100000
attribute [local irreducible] Go.Code.wpIn Go.wpListIn Go.Calls Gives Go.Exit.then Go.Exit.inBlock Done ObxE
def nodX (b : Nat) (n : NodeP) (y : NoA) : HP := bagH (fun _ : Unit => nodeL b n y) (fun _ => True)
def ndsY (bl : Int → Nat) (yy : Int → NoA) (l : List NodeP) : HP := bagH (fun _ : Unit => l.map (fun n => nodX (bl n.id) n (yy n.id))) (fun _ => True)
theorem nodX.rd5 {b : Nat} {n : NodeP} {y : NoA} {w : World} (h : (nodX b n y).rd w) : (pts b (nodC n y) 93).rd w ∧ SlT n.kids (.slice y.2.2.2.1 n.kids.length y.2.2.2.2) w := by
 obtain ⟨⟨⟩, -, F, hs⟩ := bagH.rd h
 exact ⟨hs.rd .here, OwT.rd (hs.rd (.there (.there (.there (.there .here)))))⟩
theorem ndsY.rd5 {bl : Int → Nat} {yy : Int → NoA} {l : List NodeP} {w : World} (h : (ndsY bl yy l).rd w) {id : Int} {n : NodeP} (hn : fnP l id = some n) : (pts (bl id) (nodC n (yy id)) 93).rd w ∧ SlT n.kids (.slice (yy id).2.2.2.1 n.kids.length (yy id).2.2.2.2) w := by
 obtain ⟨⟨⟩, -, F, hs⟩ := bagH.rd h
 obtain ⟨F', -, h1⟩ := hs.all (nodX (bl n.id) n (yy n.id)) (List.mem_map_of_mem (f := fun n => nodX (bl n.id) n (yy n.id)) (fnd_mem hn))
 rw [fnd_id hn] at h1
 exact nodX.rd5 ⟨F', h1⟩
theorem sep_fix {bl : Int → Nat} {w : World} : ∀ {l : List NodeP} {F : Nat → Prop}, (l.map (·.id)).Nodup → Sep (ndsL bl l) F w → (∀ b, F b → b < w.heap.size) → ∃ yy : Int → NoA, Sep (l.map (fun n => nodX (bl n.id) n (yy n.id))) F w
 | [], _, _, _, _ => ⟨fun _ => ((none, 0), (none, 0), (none, 0), (none, 0)), trivial⟩
 | n :: l, F, hu, ⟨F1, F2, h1, h2, h3, h4, h5⟩, hF => by
  simp only [List.map_cons, List.nodup_cons] at hu
  obtain ⟨yy, hy⟩ := sep_fix hu.2 h5 (fun b hb => hF b (h2 b hb))
  obtain ⟨-, y, -, hs⟩ := h4
  refine ⟨fun i => if i = n.id then y else yy i, F1, F2, h1, h2, h3, ⟨fun b hb => hF b (h1 b hb), (), trivial, ?_⟩, ?_⟩
  ·show Sep (nodeL (bl n.id) n (if n.id = n.id then y else yy n.id)) F1 w
   rw [if_pos rfl];exact hs
  ·have : l.map (fun m => nodX (bl m.id) m (if m.id = n.id then y else yy m.id)) = l.map (fun m => nodX (bl m.id) m (yy m.id)) := by
    refine List.map_congr_left fun m hm => ?_
    rw [if_neg (fun e => hu.1 (by rw [← e];exact List.mem_map_of_mem hm))]
   show Sep (l.map (fun m => nodX (bl m.id) m (if m.id = n.id then y else yy m.id))) F2 w
   rw [this];exact hy
section
variable {B : Bs} {w : World} {L : List HP} {bl : Int → Nat} {l : List NodeP}
end
abbrev outL (bo : Nat) (acc : List Int) (y : Option Addr × Nat) : List HP := [pts bo [.slice y.1 acc.length y.2] 60, OwT 3 acc (.slice y.1 acc.length y.2)]
def outH (bo : Nat) (acc : List Int) : HP := bagH (fun y : Option Addr × Nat => outL bo acc y) (fun _ => True)
section
variable {B : Bs} {w : World} {L L' : List HP}
theorem St.out5 {bo : Nat} {acc : List Int} (hS : St B L w) (hat : At (outH bo acc) L L') : ∃ a c, St B (outL bo acc (a, c) ++ L') w := by
 obtain ⟨⟨a, c⟩, -, h⟩ := St.bag hS hat
 exact ⟨a, c, h⟩
theorem outH.of {bo : Nat} {acc : List Int} {y : Option Addr × Nat} (hS : St B (outL bo acc y ++ L) w) : St B (outH bo acc :: L) w := bagH.of (A := fun y : Option Addr × Nat => outL bo acc y) (x := y) hS trivial
end
theorem flat_take {β : Type} (g : Int → List β) {ks : List Int} {i : Nat} {k : Int} (h : ks[i]? = some k) : ((ks.take i).map g).flatten.length + (g k).length ≤ (ks.map g).flatten.length ∧ ((ks.take (i + 1)).map g).flatten = ((ks.take i).map g).flatten ++ g k := by
 have e : ((ks.take (i + 1)).map g).flatten = ((ks.take i).map g).flatten ++ g k := by
  rw [take_snoc h, List.map_append, List.flatten_append]
  simp
 refine ⟨?_, e⟩
 have := congrArg List.length e
 rw [List.length_append] at this
 rw [← this]
 conv => rhs;rw [← List.take_append_drop (i + 1) ks, List.map_append, List.flatten_append, List.length_append]
 omega
structure DomY (bd : Nat) (D : DomP) (bm : Nat) (bl : Int → Nat) (yy : Int → NoA) (w : World) : Prop where
 d : (pts bd (domC5 D bm) 90).rd w
 m : (mapH encI (.map (some bm)) (mapL bl D.l)).rd w
 n : (ndsY bl yy D.l).rd w
set_option maxHeartbeats 4000000 in
theorem each5_any {B : Bs} {L : List HP} {bd bm bo : Nat} {bl : Int → Nat} {yy : Int → NoA} {D : DomP} (fid : FuncId) (hf : callable Tryz.prog fid = true)
  (hRD : ∀ acc w, St B (outH bo acc :: L) w → DomY bd D bm bl yy w)
  (hc : ∀ (id : Int) (n : NodeP) (acc : List Int) (w : World), D.f id = some n → acc.length ≤ 10000 → St B (outH bo acc :: L) w → Calls Tryz.prog fid #[pA (bl id), pA bo] w (Ret fun _ w' => St B (outH bo (acc ++ [n.id]) :: L) w'))
  (hA : ∀ i, _root_.Acc (kidOf D.f) i) (hC : ∀ i n, D.f i = some n → ∀ k ∈ n.kids, ∃ c, D.f k = some c) (hK : ∀ i n, D.f i = some n → n.kids.length ≤ 1000) :
  ∀ id, (∃ n, D.f id = some n) → ∀ acc w, acc.length + (preN D.f id).length ≤ 10000 → St B (outH bo acc :: L) w →
   Calls Tryz.prog 38 #[pA bd, .int .i64 id, .func (.func fid) #[] #[pA bo]] w (Ret fun _ w' => St B (outH bo (acc ++ preN D.f id) :: L) w') := by
 intro id
 induction hA id with
 | intro id _ ih =>
  rintro ⟨n, hn⟩ acc w hl hS
  have hpre := pre_some hA hn
  have hlen := congrArg List.length hpre
  rw [List.length_cons] at hlen
  have hkl := hK id n hn
  have hY := hRD _ _ hS
  have h1 := hY.d
  have hm := hY.m
  simp only [domC5] at h1
  refine enter Tryz.func38 rfl Tryz.ntmps38 rfl (fun a hk => ?_)
  (repeat' (first|((first|refine wx1 ?_|refine wx2 ?_ ?_<;>intro hp|refine s_end hk ?_)<;>(clear hk a;intro a hk))|((first|refine wx3 ?_;intro w b|refine wx4 ?_;intro w|refine wx5 ?_;intro w v);clear hk hS a;intro hS a hk)|refine wx0 ?_|fail))
  refine sg hk (g_lk5S hk hm hn ?_);clear hk a;intro a hk
  (repeat' (first|((first|refine wx1 ?_|refine wx2 ?_ ?_<;>intro hp|refine s_end hk ?_)<;>(clear hk a;intro a hk))|((first|refine wx3 ?_;intro w b|refine wx4 ?_;intro w|refine wx5 ?_;intro w v);clear hk hS a;intro hS a hk)|refine wx0 ?_|fail))
  refine sg hk (g_callvO (first := []) (cap := [pA bo]) hk (hf := hf) (hc := hc id n acc _ hn (by omega) hS) (h := ?_));clear hk hS a hY h1 hm;intro v17 w hS a hk
  have hY := hRD _ _ hS
  obtain ⟨h2, h4⟩ := ndsY.rd5 hY.n hn
  simp only [nodC] at h2
  (repeat' (first|((first|refine wx1 ?_|refine wx2 ?_ ?_<;>intro hp|refine s_end hk ?_)<;>(clear hk a;intro a hk))|((first|refine wx3 ?_;intro w b|refine wx4 ?_;intro w|refine wx5 ?_;intro w v);clear hk hS a;intro hS a hk)|refine wx0 ?_|fail))
  replace hk := Kn.kp [0, 2, 21, 22, 23] hk
  clear h2 h4 hY
  refine wp_for n.kids.length (fun i _ => [(23, .int .i64 (i : Int))]) (fun i _ => outH bo (acc ++ [n.id] ++ ((n.kids.take i).map (preN D.f)).flatten) :: L) (fun _ _ => True) () hk skx (by simpa using hS) trivial ?_
  clear hk hS a
  rintro i - a w hi hk hS -
  have hY := hRD _ _ hS
  have h4 := (ndsY.rd5 hY.n hn).2
  have h1 := hY.d
  simp only [domC5] at h1
  by_cases hil : i < n.kids.length
  ·obtain ⟨k, hx⟩ : ∃ k, n.kids[i]? = some k := ⟨_, List.getElem?_eq_getElem hil⟩
   have hmk := List.mem_of_getElem? hx
   obtain ⟨hf1, hf2⟩ := flat_take (preN D.f) hx
   (repeat' (first|((first|refine wx1 ?_|refine wx2 ?_ ?_<;>intro hp|refine s_end hk ?_)<;>(clear hk a;intro a hk))|((first|refine wx3 ?_;intro w b|refine wx4 ?_;intro w|refine wx5 ?_;intro w v);clear hk hS a;intro hS a hk)|refine wx0 ?_|fail))
   refine sg hk (g_callO hk (hf := by kernel_rfl) (hc := ih k ⟨n, hn, hmk⟩ (hC id n hn k hmk) _ _ (by rw [List.length_append, List.length_append, List.length_singleton];omega) hS) (h := ?_));clear hk hS a hY h1 h4;intro v30 w hS a hk
   rw [List.append_assoc (acc ++ [n.id]), ← hf2] at hS
   (repeat' (first|((first|refine wx1 ?_|refine wx2 ?_ ?_<;>intro hp|refine s_end hk ?_)<;>(clear hk a;intro a hk))|((first|refine wx3 ?_;intro w b|refine wx4 ?_;intro w|refine wx5 ?_;intro w v);clear hk hS a;intro hS a hk)|refine wx0 ?_|fail))
   exact ⟨hil, (), hk.sd, hS, trivial⟩
  ·have hii : i = n.kids.length := by omega
   subst hii
   rw [List.take_length] at hS
   (repeat' (first|((first|refine wx1 ?_|refine wx2 ?_ ?_<;>intro hp|refine s_end hk ?_)<;>(clear hk a;intro a hk))|((first|refine wx3 ?_;intro w b|refine wx4 ?_;intro w|refine wx5 ?_;intro w v);clear hk hS a;intro hS a hk)|refine wx0 ?_|fail))
   refine done0n hk (h := ?_)
   rw [hpre, fnd_id hn]
   rw [List.append_assoc, fnd_id hn] at hS
   exact hS
end Go.Proofs.YtnjmonkehjlaoaaGreatDoor
namespace Go.Proofs.YtnjmonkehjlaoaaGreatDoor
theorem no_round {next : Int} {f : Nds} (h : Wf next f) {b k : Int} {n : NodeP} (hb : f b = some n) (hk : k ∈ n.kids) : ¬ Win f k b := by
 intro hw
 have hwf : WellFounded (parOf f) := ⟨h.accU⟩
 have hle : ∀ {x y : Int}, Win f x y → depU f hwf x ≤ depU f hwf y := fun {x y} hxy => by
  induction hxy with
  | refl _ => exact Nat.le_refl _
  | step ha _ ih => rw [depU_some hwf ha];omega
 obtain ⟨c, hc, hp⟩ := h.down b n hb k hk
 have h1 := depU_some hwf hc
 rw [hp] at h1
 have := hle hw
 omega
theorem win_two {f : Nds} {a b x : Int} (h1 : Win f a x) (h2 : Win f b x) : Win f a b ∨ Win f b a := by
 induction h1 with
 | refl h => exact .inr h2
 | step hx hp ih =>
  rename_i x n
  rcases (win_iff hx).1 h2 with rfl | h3
  ·exact .inl (.step hx hp)
  ·exact ih h3
theorem pre_nodup {next : Int} {f : Nds} (h : Wf next f) (id : Int) : (preN f id).Nodup := by
 induction h.accD id with
 | intro id _ ih =>
  cases hn : f id with
  | none => rw [pre_none hn];exact List.nodup_nil
  | some n =>
   rw [pre_some h.accD hn, List.nodup_cons]
   constructor
   ·intro hm
    obtain ⟨l, hl, hx⟩ := List.mem_flatten.1 hm
    obtain ⟨k, hk, rfl⟩ := List.mem_map.1 hl
    have hw := pre_win h hx
    rw [(h.idn id n hn).1] at hw
    exact no_round h hn hk hw
   ·have hks := h.nod id n hn
    have hkk : ∀ k ∈ n.kids, ∃ c, f k = some c ∧ c.par = id := h.down id n hn
    have hkn : ∀ k ∈ n.kids, kidOf f k id := fun k hk => ⟨n, hn, hk⟩
    have hrd : ∀ k ∈ n.kids, ¬ Win f k id := fun k hk => no_round h hn hk
    generalize n.kids = ks at hks hkk hkn hrd
    induction ks with
    | nil => exact List.nodup_nil
    | cons k ks ihk =>
     rw [List.nodup_cons] at hks
     rw [List.map_cons, List.flatten_cons, List.nodup_append]
     refine ⟨ih k (hkn k (by simp)), ihk hks.2 (fun j hj => hkk j (by simp [hj])) (fun j hj => hkn j (by simp [hj])) (fun j hj => hrd j (by simp [hj])), fun x hx y hy e => ?_⟩
     subst e
     obtain ⟨l, hl, hy⟩ := List.mem_flatten.1 hy
     obtain ⟨j, hj, rfl⟩ := List.mem_map.1 hl
     have w1 := pre_win h hx
     have w2 := pre_win h hy
     obtain ⟨c1, hc1, hp1⟩ := hkk k (by simp)
     obtain ⟨c2, hc2, hp2⟩ := hkk j (by simp [hj])
     have hne : k ≠ j := fun e => hks.1 (by rw [e];exact hj)
     rcases win_two w1 w2 with h3 | h3
     ·rcases (win_iff hc2).1 h3 with e | h4
      ·exact hne e.symm
      ·rw [hp2] at h4;exact hrd k (by simp) h4
     ·rcases (win_iff hc1).1 h3 with e | h4
      ·exact hne e
      ·rw [hp1] at h4;exact hrd j (by simp [hj]) h4
theorem nodup_leP {β : Type} [DecidableEq β] : ∀ {l m : List β}, l.Nodup → (∀ x ∈ l, x ∈ m) → l.length ≤ m.length
 | [], _, _, _ => by simp
 | x :: l, m, hn, h => by
  have hx : x ∈ m := h x (by simp)
  have hn' := List.nodup_cons.1 hn
  have := nodup_leP (m := m.erase x) hn'.2 (fun y hy => by
   have hne : y ≠ x := fun e => hn'.1 (by rw [← e];exact hy)
   exact (List.mem_erase_of_ne hne).2 (h y (by simp [hy])))
  rw [List.length_erase_of_mem hx] at this
  have := List.length_pos_of_mem hx
  simp only [List.length_cons]
  omega
theorem pre_len {D : DomP} (h : WfD D) (id : Int) : (preN D.f id).length ≤ D.l.length := by
 have hsub : ∀ x ∈ preN D.f id, x ∈ D.l.map (·.id) := fun x hx => by
  obtain ⟨n, hn⟩ := (pre_win h.wf hx).has
  exact List.mem_map.2 ⟨n, fnd_mem hn, fnd_id hn⟩
 have := nodup_leP (pre_nodup h.wf id) hsub
 rwa [List.length_map] at this
end Go.Proofs.YtnjmonkehjlaoaaGreatDoor
namespace Go.Proofs.YtnjmonkehjlaoaaGreatDoor
open Go.RowKit
set_option maxRecDepth 100000
attribute [local irreducible] Go.Code.wpIn Go.wpListIn Go.Calls Gives Go.Exit.then Go.Exit.inBlock Done ObxE
section
variable {B : Bs} {w : World} {L : List HP} {bd : Nat} {D : DomP} {K : Nat}
end
end Go.Proofs.YtnjmonkehjlaoaaGreatDoor
namespace Go.Proofs.YtnjmonkehjlaoaaGreatDoor
open Go.RowKit
abbrev Opt := Int × Int × Int × Int × Bool × Bool
inductive Tree where
 | mk (k : Int) (tag key text : ByteArray) (cl : List ByteArray) (at_ : List (ByteArray × ByteArray)) (st : List (ByteArray × Int)) (o : Opt) (kids : List Tree)
abbrev NdH := Int × ByteArray × ByteArray × ByteArray × Hd × Hd × Hd × Opt × Hd
abbrev ndV (h : NdH) : Value := .agg (Enc.f h).toArray
inductive TrR (w : World) : Tree → NdH → Prop
 | mk {k : Int} {tag key text : ByteArray} {cl : List ByteArray} {at_ : List (ByteArray × ByteArray)} {st : List (ByteArray × Int)} {o : Opt} {kids : List Tree} {hc ha hs hk : Hd} {H : List NdH}
  (h1 : SlT cl hc.v w) (h2 : SlT at_ ha.v w) (h3 : SlT st hs.v w) (h4 : SlT H hk.v w) (hl : H.length = kids.length)
  (hr : ∀ (i : Nat) (t : Tree) (h : NdH), kids[i]? = some t → H[i]? = some h → TrR w t h) : TrR w (.mk k tag key text cl at_ st o kids) (k, tag, key, text, hc, ha, hs, o, hk)
theorem TrR.frz {w w' : World} {t : Tree} {h : NdH} (hr : TrR w t h) (hf : Frz w w') : TrR w' t h := by
 induction hr with
 | mk h1 h2 h3 h4 hl _ ih => exact .mk (h1.frz hf) (h2.frz hf) (h3.frz hf) (h4.frz hf) hl ih
theorem TrR.stays (t : Tree) (h : NdH) : Stays (fun w => TrR w t h) := fun _ _ hf hr => hr.frz hf
def FoR (w : World) (ts : List Tree) (H : List NdH) : Prop := H.length = ts.length ∧ ∀ (i : Nat) (t : Tree) (h : NdH), ts[i]? = some t → H[i]? = some h → TrR w t h
theorem FoR.frz {w w' : World} {ts : List Tree} {H : List NdH} (hr : FoR w ts H) (hf : Frz w w') : FoR w' ts H := ⟨hr.1, fun i t h h1 h2 => (hr.2 i t h h1 h2).frz hf⟩
theorem FoR.stays (ts : List Tree) (H : List NdH) : Stays (fun w => FoR w ts H) := fun _ _ hf hr => hr.frz hf
theorem FoR.nil (w : World) : FoR w [] [] := ⟨rfl, fun i t h h1 _ => by simp at h1⟩
theorem FoR.snoc {w : World} {ts : List Tree} {H : List NdH} {t : Tree} {h : NdH} (hF : FoR w ts H) (hT : TrR w t h) : FoR w (ts ++ [t]) (H ++ [h]) := by
 refine ⟨by simp [hF.1], fun i t' h' h1 h2 => ?_⟩
 rcases Nat.lt_or_ge i ts.length with hi | hi
 ·rw [List.getElem?_append_left hi] at h1
  rw [List.getElem?_append_left (by rw [hF.1];exact hi)] at h2
  exact hF.2 i t' h' h1 h2
 ·rw [List.getElem?_append_right hi] at h1
  rw [List.getElem?_append_right (by rw [hF.1];exact hi), hF.1] at h2
  cases hj : i - ts.length with
  | zero =>
   rw [hj] at h1 h2
   simp at h1 h2
   subst h1 h2
   exact hT
  | succ j => rw [hj] at h1;simp at h1
def appH {α : Type} [Enc α] (E : TypeId) (ys : List α) : Value → HP := match ys with
 | [] => emp0
 | y :: r => OwT E (y :: r)
theorem appH.rd {α : Type} [Enc α] {E : TypeId} {ys : List α} {v : Value} {w : World} (h : (appH E ys v).rd w) : SlT ys v w := by
 cases ys with
 | cons y r => exact OwT.rd h
 | nil =>
  obtain ⟨ao, rfl⟩ := emp0.get h
  refine ⟨by simp [enc], by simp [maxLen], ?_⟩
  cases ao with
  | none => exact .inl ⟨rfl, rfl⟩
  | some a => exact .inr ⟨a, 0, rfl, by simp, by simp [maxLen], fun j u hj => by simp [enc] at hj⟩
section
variable {df : List Deferred} {P : Program} {a : Act} {w : World} {n : Nat} {l : List (Nat × Value)} {dst : Option Nat} {ty : TypeId} {pos : String} {af : Array Edge} {g : Option (Nat × Bool)} {α : Type} [Enc α]
theorem v_appR {x y : Operand} {t tx : TypeId} {E E' : Nat} {v y0 z : Value} {ys : List α} (hk : Kn df n a l) (hv : (emp0 v).rd w)
  (hT : elOf P t = some E) (hTx : elOf P tx = some E') (hE : szOf P E = some (Enc.k α + 1)) (hz : zeroOf P E = some z) (hzs : z.cells.size = Enc.k α + 1) (hs : SlT ys y0 w) {by_ : Nat} (hby : ((P.info? E).map (·.bytes)).getD 0 = by_) (hbytes : ys.length * by_ ≤ 140737488355328) (h63 : ys.length ≤ maxLen)
  (hx : ev l x = some v := by rfl) (hy : ev l y = some y0 := by rfl) :
  Gives P ⟨dst, .call { callee := .builtin .append, args := #[x, y], argTypes := #[t, tx] }, ty, pos, af, g⟩ a w (fun v' w' => St w [appH E ys v'] w') := by
 cases ys with
 | cons u r => exact v_app0 (ys := u :: r) hk hv (by simp) hT hTx hE hz hzs hs hby hbytes h63 hx hy
 | nil =>
  have hv' : SlT ([] : List α) v w := appH.rd (E := E) hv
  refine (v_appN (α := α) hk hv' hT hTx hE hz hs hx hy).mono ?_
  rintro v' w' ⟨rfl, hS⟩
  obtain ⟨ao, rfl⟩ := emp0.get hv
  obtain ⟨F, hF, _⟩ := hS.own
  exact ⟨hS.below, hS.frz, F, hF, fun _ => False, F, fun _ h => h.elim, fun _ h => h, fun _ h _ => h, ⟨fun _ h => h, ao, rfl⟩, trivial⟩
theorem v_app2 {w0 : Bs} {X : List HP} {x y : Operand} {t tx : TypeId} {E E' : Nat} {v y0 z : Value} {xs ys : List α} (hk : Kn df n a l) (hS : St w0 (appH E xs v :: X) w)
  (hT : elOf P t = some E) (hTx : elOf P tx = some E') (hE : szOf P E = some (Enc.k α + 1)) (hz : zeroOf P E = some z) (hzs : z.cells.size = Enc.k α + 1) (hs : SlT ys y0 w) {by_ : Nat} (hby : ((P.info? E).map (·.bytes)).getD 0 = by_) (hbytes : (xs.length + ys.length) * by_ ≤ 140737488355328) (h63 : xs.length + ys.length ≤ maxLen)
  (hx : ev l x = some v := by rfl) (hy : ev l y = some y0 := by rfl) :
  Gives P ⟨dst, .call { callee := .builtin .append, args := #[x, y], argTypes := #[t, tx] }, ty, pos, af, g⟩ a w (fun v' w' => St w0 (appH E (xs ++ ys) v' :: X) w') := by
 cases xs with
 | cons u r => exact v_app hk hS hx hy hT hTx hs hE hz hzs hby hbytes h63
 | nil =>
  rw [List.length_nil, Nat.zero_add] at hbytes h63
  refine (v_appR (ys := ys) hk (hS.rd .here) hT hTx hE hz hzs hs hby hbytes h63 hx hy).mono ?_
  intro v' w' hS'
  exact (hS.call hS').sub (.cons .here .cons_drop)
end
abbrev treeR (t : Tree) (h : NdH) : HP := rdH (fun w => TrR w t h)
abbrev forR (ts : List Tree) (H : List NdH) : HP := rdH (fun w => FoR w ts H)
def treeH (t : Tree) (v : Value) : HP := bagH (fun h : NdH => [treeR t h]) (fun h => v = ndV h)
section
variable {B : Bs} {w : World} {L L' : List HP}
theorem treeR.of {k : Int} {tag key text : ByteArray} {cl : List ByteArray} {at_ : List (ByteArray × ByteArray)} {st : List (ByteArray × Int)} {o : Opt} {kids : List Tree} {hc ha hs hk : Hd} {H : List NdH} {A1 A2 A3 A4 : HP}
  (h : St B (A1 :: A2 :: A3 :: A4 :: forR kids H :: L) w) (h1 : ∀ g, A1.rd g → SlT cl hc.v g := by exact fun g h => by first | exact OwT.rd h | exact appH.rd h) (h2 : ∀ g, A2.rd g → SlT at_ ha.v g := by exact fun g h => OwT.rd h)
  (h3 : ∀ g, A3.rd g → SlT st hs.v g := by exact fun g h => OwT.rd h) (h4 : ∀ g, A4.rd g → SlT H hk.v g := by exact fun g h => OwT.rd h) : St B (treeR (.mk k tag key text cl at_ st o kids) (k, tag, key, text, hc, ha, hs, o, hk) :: L) w := by
 refine rdH.of (L1 := [A1, A2, A3, A4, forR kids H]) h fun g hg => ?_
 have hF : FoR g kids H := rdH.rd (FoR.stays kids H) (hg _ (by simp))
 exact .mk (h1 g (hg A1 (by simp))) (h2 g (hg A2 (by simp))) (h3 g (hg A3 (by simp))) (h4 g (hg A4 (by simp))) hF.1 hF.2
theorem treeH.of {t : Tree} {h : NdH} (hS : St B (treeR t h :: L) w) : St B (treeH t (ndV h) :: L) w := bagH.of (A := fun h : NdH => [treeR t h]) (x := h) hS rfl
theorem St.tree {t : Tree} {v : Value} (hS : St B L w) (hat : At (treeH t v) L L') : ∃ h, v = ndV h ∧ St B (treeR t h :: L') w := St.bag hS hat
theorem St.trR {t : Tree} {h : NdH} (hS : St B L w) (hat : At (treeR t h) L L') : TrR w t h := rdH.rd (TrR.stays t h) (hS.rd hat)
theorem St.foR {ts : List Tree} {H : List NdH} (hS : St B L w) (hat : At (forR ts H) L L') : FoR w ts H := rdH.rd (FoR.stays ts H) (hS.rd hat)
theorem forR.nil (hS : St B L w) : St B (forR [] [] :: L) w := rdH.of (L1 := []) hS fun g _ => FoR.nil g
theorem forR.snoc {ts : List Tree} {H : List NdH} {t : Tree} {h : NdH} (hS : St B (treeR t h :: forR ts H :: L) w) : St B (forR (ts ++ [t]) (H ++ [h]) :: L) w :=
 rdH.of (L1 := [treeR t h, forR ts H]) hS fun g hg => (rdH.rd (FoR.stays ts H) (hg _ (by simp))).snoc (rdH.rd (TrR.stays t h) (hg _ (by simp)))
abbrev forR2 (ts us : List Tree) (H K : List NdH) : HP := rdH (fun w => FoR w ts H ∧ FoR w us K)
theorem St.rdTr {t : Tree} {h : NdH} (hS : St B L w) (hr : TrR B.g t h) : TrR w t h := hr.frz hS.frz
theorem St.rdFo {ts : List Tree} {H : List NdH} (hS : St B L w) (hr : FoR B.g ts H) : FoR w ts H := hr.frz hS.frz
end
instance : Inhabited Hd := ⟨⟨none, 0, 0⟩⟩
open Classical in
noncomputable def ndOf (v : Value) : NdH := if h : ∃ x, v = ndV x then Classical.choose h else default
theorem hdv_inj {a b : Hd} (h : a.v = b.v) : a = b := by
 cases a;cases b
 simp only [Hd.v, Value.slice.injEq] at h
 obtain ⟨rfl, rfl, rfl⟩ := h
 rfl
theorem SlT.hd {α : Type} [Enc α] {xs : List α} {h : Hd} {w : World} (hs : SlT xs h.v w) : ∃ a m, h = ⟨a, xs.length, m⟩ := by
 obtain ⟨a, m, e, _⟩ := hs.shape
 exact ⟨a, m, hdv_inj e⟩
theorem TrR.split {w : World} {t : Tree} {h : NdH} (hr : TrR w t h) : ∃ k tag key text cl al sl e lv m d p q kids a1 m1 a2 m2 a3 m3 a4 m4, ∃ H : List NdH, t = .mk k tag key text cl al sl (e, lv, m, d, p, q) kids ∧
  h = (k, tag, key, text, ⟨a1, cl.length, m1⟩, ⟨a2, al.length, m2⟩, ⟨a3, sl.length, m3⟩, (e, lv, m, d, p, q), ⟨a4, H.length, m4⟩) ∧
  SlT cl (.slice a1 cl.length m1) w ∧ SlT al (.slice a2 al.length m2) w ∧ SlT sl (.slice a3 sl.length m3) w ∧ SlT H (.slice a4 H.length m4) w ∧ FoR w kids H := by
 obtain ⟨c1, c2, c3, c4, hl, hkr⟩ := hr
 rename_i k tag key text cl al sl o kids hc ha hs hk0 H
 obtain ⟨e, lv, m, d, p, q⟩ := o
 obtain ⟨a1, m1, rfl⟩ := c1.hd
 obtain ⟨a2, m2, rfl⟩ := c2.hd
 obtain ⟨a3, m3, rfl⟩ := c3.hd
 obtain ⟨a4, m4, rfl⟩ := c4.hd
 exact ⟨k, tag, key, text, cl, al, sl, e, lv, m, d, p, q, kids, a1, m1, a2, m2, a3, m3, a4, m4, H, rfl, rfl, c1, c2, c3, c4, hl, hkr⟩
def Tree.kids : Tree → List Tree
 | .mk _ _ _ _ _ _ _ _ ks => ks
theorem kid_lt {k : Int} {tag key text : ByteArray} {cl : List ByteArray} {at_ : List (ByteArray × ByteArray)} {st : List (ByteArray × Int)} {o : Opt} {kids : List Tree} {t : Tree} (h : t ∈ kids) : SizeOf.sizeOf t < SizeOf.sizeOf (Tree.mk k tag key text cl at_ st o kids) := by
 have := List.sizeOf_lt_of_mem h
 simp only [Tree.mk.sizeOf_spec]
 omega
inductive Fits : Tree → Prop
 | mk {k : Int} {tag key text : ByteArray} {cl : List ByteArray} {at_ : List (ByteArray × ByteArray)} {st : List (ByteArray × Int)} {o : Opt} {kids : List Tree}
  (h1 : cl.length ≤ 100) (h2 : at_.length ≤ 100) (h3 : st.length ≤ 100) (h4 : kids.length ≤ 1000) (h5 : ∀ t ∈ kids, Fits t) : Fits (.mk k tag key text cl at_ st o kids)
end Go.Proofs.YtnjmonkehjlaoaaGreatDoor
namespace Go.Proofs.YtnjmonkehjlaoaaGreatDoor
open Go.RowKit
inductive STree where
 | mk (id k : Int) (tag text : ByteArray) (cl : List ByteArray) (at_ : List (ByteArray × ByteArray)) (st : List (ByteArray × Int)) (kids : List STree)
abbrev SnH := Int × Int × ByteArray × ByteArray × Hd × Hd × Hd × Hd
abbrev snV (h : SnH) : Value := .agg (Enc.f h).toArray
inductive SrR (w : World) : STree → SnH → Prop
 | mk {id k : Int} {tag text : ByteArray} {cl : List ByteArray} {at_ : List (ByteArray × ByteArray)} {st : List (ByteArray × Int)} {kids : List STree} {hc ha hs hk : Hd} {H : List SnH}
  (h1 : SlT cl hc.v w) (h2 : SlT at_ ha.v w) (h3 : SlT st hs.v w) (h4 : SlT H hk.v w) (hl : H.length = kids.length)
  (hr : ∀ (i : Nat) (t : STree) (h : SnH), kids[i]? = some t → H[i]? = some h → SrR w t h) : SrR w (.mk id k tag text cl at_ st kids) (id, k, tag, text, hc, ha, hs, hk)
def SoR (w : World) (ts : List STree) (H : List SnH) : Prop := H.length = ts.length ∧ ∀ (i : Nat) (t : STree) (h : SnH), ts[i]? = some t → H[i]? = some h → SrR w t h
abbrev streeR (t : STree) (h : SnH) : HP := rdH (fun w => SrR w t h)
abbrev sforR (ts : List STree) (H : List SnH) : HP := rdH (fun w => SoR w ts H)
def streeH (t : STree) (v : Value) : HP := bagH (fun h : SnH => [streeR t h]) (fun h => v = snV h)
section
variable {B : Bs} {w : World} {L L' : List HP}
abbrev sforR2 (ts us : List STree) (H K : List SnH) : HP := rdH (fun w => SoR w ts H ∧ SoR w us K)
end
open Classical in
noncomputable def snOf (v : Value) : SnH := if h : ∃ x, v = snV x then Classical.choose h else default
def STree.kids : STree → List STree
 | .mk _ _ _ _ _ _ _ ks => ks
inductive SFits : STree → Prop
 | mk {id k : Int} {tag text : ByteArray} {cl : List ByteArray} {at_ : List (ByteArray × ByteArray)} {st : List (ByteArray × Int)} {kids : List STree}
  (h1 : cl.length ≤ 100) (h2 : at_.length ≤ 100) (h3 : st.length ≤ 100) (h4 : kids.length ≤ 1000) (h5 : ∀ t ∈ kids, SFits t) : SFits (.mk id k tag text cl at_ st kids)
end Go.Proofs.YtnjmonkehjlaoaaGreatDoor
namespace Go.Proofs.YtnjmonkehjlaoaaGreatDoor
abbrev zS : STree := .mk 0 0 ⟨#[]⟩ ⟨#[]⟩ [] [] [] []
noncomputable def trN (f : Nds) : Int → STree := foldD (fun n r => .mk n.id n.kind n.tag n.text n.cls n.att n.sty r) zS f
end Go.Proofs.YtnjmonkehjlaoaaGreatDoor
namespace Go.Proofs.YtnjmonkehjlaoaaGreatDoor
open Go.RowKit
set_option maxRecDepth 100000
attribute [local irreducible] Go.Code.wpIn Go.wpListIn Go.Calls Gives Go.Exit.then Go.Exit.inBlock Done ObxE
theorem clip5_any (x lo hi : Int) (w0 : World) : Calls Tryz.prog 30 #[.int .i64 x, .int .i64 lo, .int .i64 hi] w0 (Ret fun v w => v = .int .i64 (max lo (min x hi)) ∧ St w0 [] w) := by
 refine enter Tryz.func30 rfl Tryz.ntmps30 rfl (fun a hk => ?_);have hS := St.refl w0
 (repeat' (first|((first|refine wx1 ?_|refine wx2 ?_ ?_<;>intro hp|refine s_end hk ?_)<;>(clear hk a;intro a hk))|((first|refine wx3 ?_;intro w b|refine wx4 ?_;intro w|refine wx5 ?_;intro w v);clear hk hS a;intro hS a hk)|refine wx0 ?_|fail))
 exact done1 hk (h := ⟨rfl, hS.nil⟩)
theorem new5_any (most : Int) (w0 : World) : Calls Tryz.prog 11 #[.int .i64 most] w0 (Ret fun v w => ∃ bd, v = pA bd ∧ St w0 [domH bd (newP most)] w) := by
 refine enter Tryz.func11 rfl Tryz.ntmps11 rfl (fun a hk => ?_);have hS := St.refl w0
 (repeat' (first|((first|refine wx1 ?_|refine wx2 ?_ ?_<;>intro hp|refine s_end hk ?_)<;>(clear hk a;intro a hk))|((first|refine wx3 ?_;intro w b|refine wx4 ?_;intro w|refine wx5 ?_;intro w v);clear hk hS a;intro hS a hk)|refine wx0 ?_|fail))
 refine sg hk (g_callO hk (hf := by kernel_rfl) (hc := clip5_any most 1 65536 _) (h := ?_));clear hk a;rintro _ w ⟨rfl, hS1⟩ a hk;replace hS := hS.call0 hS1;clear hS1
 (repeat' (first|((first|refine wx1 ?_|refine wx2 ?_ ?_<;>intro hp|refine s_end hk ?_)<;>(clear hk a;intro a hk))|((first|refine wx3 ?_;intro w b|refine wx4 ?_;intro w|refine wx5 ?_;intro w v);clear hk hS a;intro hS a hk)|refine wx0 ?_|fail))
 refine sg hk (g_makeMap encI hS ?_);clear hk hS a;intro w mv hS a hk
 obtain ⟨bm, rfl⟩ := mapH.shape (hS.rd (A := mapH encI mv ([] : List (Int × Value))) atx)
 (repeat' (first|((first|refine wx1 ?_|refine wx2 ?_ ?_<;>intro hp|refine s_end hk ?_)<;>(clear hk a;intro a hk))|((first|refine wx3 ?_;intro w b|refine wx4 ?_;intro w|refine wx5 ?_;intro w v);clear hk hS a;intro hS a hk)|refine wx0 ?_|fail))
 rename Nat => br
 refine su hk (g_mapUpdate (k := (0 : Int)) hk hS ?_ (mT rfl) keyI);clear hk hS a;intro w hS a hk
 (repeat' (first|((first|refine wx1 ?_|refine wx2 ?_ ?_<;>intro hp|refine s_end hk ?_)<;>(clear hk a;intro a hk))|((first|refine wx3 ?_;intro w b|refine wx4 ?_;intro w|refine wx5 ?_;intro w v);clear hk hS a;intro hS a hk)|refine wx0 ?_|fail))
 refine done1 hk (h := ⟨_, rfl, domH.of (bm := bm) (bl := fun _ => br) (L := []) ?_⟩)
 have hS1 := (((hS.nilT 3 Int).nilT 140 PrI).nilT 139 PrS).nilT 9 ByteArray
 clear hS
 have hS : St w0 (nodeL br rootP ((none, 0), (none, 0), (none, 0), (none, 0)) ++ (mapH encI (.map (some bm)) (setL ([] : List (Int × Value)) (0 : Int) (pA br)) :: pts b [.int .i64 (max 1 (min most 65536)), .int .i64 1, .map (some bm)] 90 :: [])) w := by
  refine hS1.sub ?_
  simp only [nodeL, nodC, rootP, List.length_nil, List.cons_append, List.nil_append]
  exact (.cons atx (.cons atx (.cons atx (.cons atx (.cons atx (.cons atx (.cons atx sbx)))))))
 clear hS1
 have hS1 : St w0 (ndsH (fun _ => br) [rootP] :: (mapH encI (.map (some bm)) (setL ([] : List (Int × Value)) (0 : Int) (pA br)) :: pts b [.int .i64 (max 1 (min most 65536)), .int .i64 1, .map (some bm)] 90 :: [])) w := ndsH.of (nodH.of hS)
 exact hS1.sub (.cons atx (.cons atx (.cons atx sbx)))
theorem next5_any {bd bm : Nat} {bl : Int → Nat} {D : DomP} (w0 : World) (hDR : DomR bd D bm bl w0) : Calls Tryz.prog 96 #[pA bd] w0 (Ret fun v w => v = .int .i64 D.next ∧ St w0 [] w) := by
 have h1 := hDR.d
 simp only [domC5] at h1
 refine enter Tryz.func96 rfl Tryz.ntmps96 rfl (fun a hk => ?_);have hS := St.refl w0
 (repeat' (first|((first|refine wx1 ?_|refine wx2 ?_ ?_<;>intro hp|refine s_end hk ?_)<;>(clear hk a;intro a hk))|((first|refine wx3 ?_;intro w b|refine wx4 ?_;intro w|refine wx5 ?_;intro w v);clear hk hS a;intro hS a hk)|refine wx0 ?_|fail))
 exact done1 hk (h := ⟨rfl, hS.nil⟩)
end Go.Proofs.YtnjmonkehjlaoaaGreatDoor
