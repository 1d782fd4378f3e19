/- Layer 9: the static rendering of a view that is as it is shown: the program. Layer 7: views as they are shown, in plain words. Layer 7: views as they are shown, by the reference. Layer 9: an empty tree; what is frozen, forgotten. Layer 9: the static rendering by the reference: nodes that share what the view's hold. Layer 5, the reference: nodes are made, put in and moved. Maps by numbers. Layer 5: nodes by numbers, as they lie in memory. -/
import Derived.Test.YtgklceoodpocaaaGreatDoorQ10
import Derived.Test.YtgklceoodpocaaaGreatDoorQ09
set_option linter.all false
namespace Go.Proofs.YtgklceoodpocaaaGreatDoor
open Go.RowKit
set_option maxRecDepth 100000
attribute [local irreducible] Go.Code.wpIn Go.wpListIn Go.Calls Gives Go.Exit.then Go.Exit.inBlock Done ObxE
mutual
def stl : Tree → STree
 | .mk k tag _ text cl al sl _ kids => if k = 1 then .mk 0 1 ⟨#[]⟩ text [] [] [] [] else .mk 0 2 tag ⟨#[]⟩ cl al sl (stlL kids)
def stlL : List Tree → List STree
 | [] => []
 | t :: ts => stl t :: stlL ts
end
theorem stlL_map : ∀ l, stlL l = l.map stl
 | [] => rfl
 | t :: ts => by rw [stlL, stlL_map ts];rfl
theorem sleaf {B : Bs} {L : List HP} {w : World} (id k : Int) (tag text : ByteArray) (hS : St B L w) : St B (streeR (.mk id k tag text [] [] [] []) (id, k, tag, text, ⟨none, 0, 0⟩, ⟨none, 0, 0⟩, ⟨none, 0, 0⟩, ⟨none, 0, 0⟩) :: L) w :=
 rdH.of (L1 := []) hS fun g _ => .mk (SlT.nil (α := ByteArray) g) (SlT.nil (α := ByteArray × ByteArray) g) (SlT.nil (α := ByteArray × Int) g) (SlT.nil (α := SnH) g) rfl (fun i t h h1 _ => by simp at h1)
theorem clone9S_any (l : List PrS) (v : Value) (w0 : World) (hv : SlT l v w0) (hl : l.length ≤ 900) : Calls Tryz.prog 80 #[v] w0 (Ret fun v w => St w0 [OwT 98 l v] w) := by
 obtain ⟨ao, c, rfl, hao, _⟩ := hv.shape
 refine enter Tryz.func80 rfl Tryz.ntmps80 rfl (fun a hk => ?_);have hS := St.refl w0
 (repeat' (first|((first|refine wx1 ?_|refine wx2 ?_ ?_<;>intro hp|refine s_end hk ?_)<;>(clear hk a;intro a hk))|((first|refine wx3 ?_;intro w b|refine wx4 ?_;intro w|refine wx5 ?_;intro w v);clear hk hS a;intro hS a hk)|refine wx0 ?_|fail))
 refine sg hk (g_eqN hk ?_ (hT := eT rfl));clear hk a;intro a hk
 cases ao with
 | none =>
  obtain ⟨h1, _⟩ := hao rfl
  subst h1
  (repeat' (first|((first|refine wx1 ?_|refine wx2 ?_ ?_<;>intro hp|refine s_end hk ?_)<;>(clear hk a;intro a hk))|((first|refine wx3 ?_;intro w b|refine wx4 ?_;intro w|refine wx5 ?_;intro w v);clear hk hS a;intro hS a hk)|refine wx0 ?_|fail))
  exact done1 hk (h := hS.nilT 98 PrS)
 | some ad =>
  (repeat' (first|((first|refine wx1 ?_|refine wx2 ?_ ?_<;>intro hp|refine s_end hk ?_)<;>(clear hk a;intro a hk))|((first|refine wx3 ?_;intro w b|refine wx4 ?_;intro w|refine wx5 ?_;intro w v);clear hk hS a;intro hS a hk)|refine wx0 ?_|fail))
  refine sg hk (g_bs0 PrS hS ?_ (hT := eT rfl) (hE := zT rfl));clear hk hS a;intro w v0 hS a hk
  refine sg hk (g_move hk ?_);clear hk a;intro a hk
  refine sg hk (g_appT (xs := ([] : List PrS)) (ys := l) hk hS ?_ (hT := eT rfl) (hTx := eT rfl) (hE := zT rfl) (hz := oT rfl) (hzs := rfl) (hs := hS.rdT hv) (hby := bT rfl) (hbytes := by simp only [List.length_nil];omega) (h63 := by simp only [maxLen, List.length_nil];omega));clear hk hS a;intro w v1 hS a hk
  rw [List.nil_append] at hS
  (repeat' (first|((first|refine wx1 ?_|refine wx2 ?_ ?_<;>intro hp|refine s_end hk ?_)<;>(clear hk a;intro a hk))|((first|refine wx3 ?_;intro w b|refine wx4 ?_;intro w|refine wx5 ?_;intro w v);clear hk hS a;intro hS a hk)|refine wx0 ?_|fail))
  exact done1 hk (h := hS)
theorem clone9I_any (l : List PrI) (v : Value) (w0 : World) (hv : SlT l v w0) (hl : l.length ≤ 900) : Calls Tryz.prog 81 #[v] w0 (Ret fun v w => St w0 [OwT 100 l v] w) := by
 obtain ⟨ao, c, rfl, hao, _⟩ := hv.shape
 refine enter Tryz.func81 rfl Tryz.ntmps81 rfl (fun a hk => ?_);have hS := St.refl w0
 (repeat' (first|((first|refine wx1 ?_|refine wx2 ?_ ?_<;>intro hp|refine s_end hk ?_)<;>(clear hk a;intro a hk))|((first|refine wx3 ?_;intro w b|refine wx4 ?_;intro w|refine wx5 ?_;intro w v);clear hk hS a;intro hS a hk)|refine wx0 ?_|fail))
 refine sg hk (g_eqN hk ?_ (hT := eT rfl));clear hk a;intro a hk
 cases ao with
 | none =>
  obtain ⟨h1, _⟩ := hao rfl
  subst h1
  (repeat' (first|((first|refine wx1 ?_|refine wx2 ?_ ?_<;>intro hp|refine s_end hk ?_)<;>(clear hk a;intro a hk))|((first|refine wx3 ?_;intro w b|refine wx4 ?_;intro w|refine wx5 ?_;intro w v);clear hk hS a;intro hS a hk)|refine wx0 ?_|fail))
  exact done1 hk (h := hS.nilT 100 PrI)
 | some ad =>
  (repeat' (first|((first|refine wx1 ?_|refine wx2 ?_ ?_<;>intro hp|refine s_end hk ?_)<;>(clear hk a;intro a hk))|((first|refine wx3 ?_;intro w b|refine wx4 ?_;intro w|refine wx5 ?_;intro w v);clear hk hS a;intro hS a hk)|refine wx0 ?_|fail))
  refine sg hk (g_bs0 PrI hS ?_ (hT := eT rfl) (hE := zT rfl));clear hk hS a;intro w v0 hS a hk
  refine sg hk (g_move hk ?_);clear hk a;intro a hk
  refine sg hk (g_appT (xs := ([] : List PrI)) (ys := l) hk hS ?_ (hT := eT rfl) (hTx := eT rfl) (hE := zT rfl) (hz := oT rfl) (hzs := rfl) (hs := hS.rdT hv) (hby := bT rfl) (hbytes := by simp only [List.length_nil];omega) (h63 := by simp only [maxLen, List.length_nil];omega));clear hk hS a;intro w v1 hS a hk
  rw [List.nil_append] at hS
  (repeat' (first|((first|refine wx1 ?_|refine wx2 ?_ ?_<;>intro hp|refine s_end hk ?_)<;>(clear hk a;intro a hk))|((first|refine wx3 ?_;intro w b|refine wx4 ?_;intro w|refine wx5 ?_;intro w v);clear hk hS a;intro hS a hk)|refine wx0 ?_|fail))
  exact done1 hk (h := hS)
set_option maxHeartbeats 4000000 in
theorem still_any : ∀ (n : Nat) (t : Tree) (h : NdH) (w0 : World), SizeOf.sizeOf t < n → Fits t → TrR w0 t h → Calls Tryz.prog 38 #[ndV h] w0 (Ret fun v w => St w0 [streeH (stl t) v] w)
 | 0, _, _, _, hn, _, _ => by omega
 | n + 1, t, h, w0, hn, hf, hr => by
  have ih := still_any n
  obtain ⟨k, tag, key, text, cl, al, sl, e, lv, m, d, p, q, kids, a1, m1, a2, m2, a3, m3, a4, m4, H, rfl, rfl, c1, c2, c3, c4, hF⟩ := hr.split
  obtain ⟨l1, l2, l3, l4, l5⟩ := hf
  show Calls Tryz.prog 38 #[.agg #[.int .i64 k, .string tag, .string key, .string text, .slice a1 cl.length m1, .slice a2 al.length m2, .slice a3 sl.length m3, .int .i64 e, .int .i64 lv, .int .i64 m, .int .i64 d, .bool p, .bool q, .slice a4 H.length m4]] w0 _
  refine enter Tryz.func38 rfl Tryz.ntmps38 rfl (fun a hk => ?_);have hS := St.refl w0
  by_cases hk1 : k = 1
  ·rw [stl, if_pos hk1]
   (repeat' (first|((first|refine wx1 ?_|refine wx2 ?_ ?_<;>intro hp|refine s_end hk ?_)<;>(clear hk a;intro a hk))|((first|refine wx3 ?_;intro w b|refine wx4 ?_;intro w|refine wx5 ?_;intro w v);clear hk hS a;intro hS a hk)|refine wx0 ?_|fail))
   refine done1R hk rfl (.str hS (hT := aT rfl) (hs := zT rfl)) (h := ?_)
   exact streeH.of (h := (0, 1, ⟨#[]⟩, text, ⟨none, 0, 0⟩, ⟨none, 0, 0⟩, ⟨none, 0, 0⟩, ⟨none, 0, 0⟩)) (sleaf 0 1 ⟨#[]⟩ text hS.nil)
  ·rw [stl, if_neg hk1]
   (repeat' (first|((first|refine wx1 ?_|refine wx2 ?_ ?_<;>intro hp|refine s_end hk ?_)<;>(clear hk a;intro a hk))|((first|refine wx3 ?_;intro w b|refine wx4 ?_;intro w|refine wx5 ?_;intro w v);clear hk hS a;intro hS a hk)|refine wx0 ?_|fail))
   rename_i b1
   rename Nat => b2
   refine wp_drawn 13 mixed (by kernel_rfl) hk hS ?_;clear hk hS a
   (repeat' (first|(show ObxE _ _ _ _ _ _ _ _ _ (_::_) _ _ _;first|refine ox1 ?_|refine ox2 ?_ ?_<;>intro hp)|fail))
   refine' obe_res (fun us a w hk hd hS => ?_) ?_;rotate_left;focus (have hk := Kn.vw hk vwx;exact g_callO hk (hf := by kernel_rfl) (hc := cloneS_any cl _ _ (hS.rdT c1) (by omega)) (h := fun _ _ h => h))
   (repeat' (first|(show ObxE _ _ _ _ _ _ _ _ _ (_::_) _ _ _;first|refine ox1 ?_|refine ox2 ?_ ?_<;>intro hp)|fail))
   refine' obe_res (fun us a w hk hd hS => ?_) ?_;rotate_left;focus (have hk := Kn.vw hk vwx;exact g_callO hk (hf := by kernel_rfl) (hc := clone9S_any al _ _ (hS.rdT c2) (by omega)) (h := fun _ _ h => h))
   (repeat' (first|(show ObxE _ _ _ _ _ _ _ _ _ (_::_) _ _ _;first|refine ox1 ?_|refine ox2 ?_ ?_<;>intro hp)|fail))
   refine' obe_res (fun us a w hk hd hS => ?_) ?_;rotate_left;focus (have hk := Kn.vw hk vwx;exact g_callO hk (hf := by kernel_rfl) (hc := clone9I_any sl _ _ (hS.rdT c3) (by omega)) (h := fun _ _ h => h))
   refine' obe_fn [4, 7, 10] (fun l => .agg #[.int .i64 0, .int .i64 2, .string tag, .string ⟨#[]⟩, l.getD 0 undef, l.getD 1 undef, l.getD 2 undef, .slice none 0 0]) (fun us a w hk hd hS => ?_) ?_ (by intro k e;simp only [List.mem_cons, List.not_mem_nil, or_false] at e;rcases e with rfl | rfl | rfl;exact ⟨16, _, rfl, rfl⟩;exact ⟨19, _, rfl, rfl⟩;exact ⟨22, _, rfl, rfl⟩)
   ·have hk := Kn.vw hk vwx
    have h1 : (OwT 9 cl (us 4)).rd w := hd.2.1
    have h2 : (OwT 98 al (us 7)).rd w := hd.2.2.1
    have h3 : (OwT 100 sl (us 10)).rd w := hd.2.2.2.1
    obtain ⟨_, _, e1, _⟩ := (OwT.rd h1).shape
    obtain ⟨_, _, e2, _⟩ := (OwT.rd h2).shape
    obtain ⟨_, _, e3, _⟩ := (OwT.rd h3).shape
    simp only [Nat.zero_add, Nat.reduceAdd] at hk
    simp only [List.map, List.getD_cons_zero, List.getD_cons_succ]
    rw [e1, e2, e3] at hk ⊢
    exact g_build hk ⟨rfl, St.refl w⟩ (fsT rfl) (oT rfl)
   refine' obe_res (fun us a w hk hd hS => ?_) ?_;rotate_left;focus (have hk := Kn.vw hk vwx;exact v_alloc hk (oT rfl))
   refine obe_nil ⟨rfl, ?_⟩;intro us a w hk hS
   simp only [resE, List.cons_append, List.nil_append, Nat.zero_add, Nat.reduceAdd] at hS
   obtain ⟨b3, hb3, hS1⟩ := hS.ptv atx;replace hS := hS1;clear hS1
   replace hk := Kn.kp [1, 2, 3, 23] hk
   simp only [HV.of, List.map, List.getD_cons_zero, List.getD_cons_succ, Nat.zero_add, Nat.reduceAdd] at hk
   generalize us 4 = v16 at hS hk
   generalize us 7 = v19 at hS hk
   generalize us 10 = v22 at hS hk
   rw [hb3] at hk
   obtain ⟨aov16, cv16, hshp, _⟩ := (OwT.rd (hS.rd (A := OwT 9 _ v16) atx)).shape;subst hshp
   obtain ⟨aov19, cv19, hshp, _⟩ := (OwT.rd (hS.rd (A := OwT 98 _ v19) atx)).shape;subst hshp
   obtain ⟨aov22, cv22, hshp, _⟩ := (OwT.rd (hS.rd (A := OwT 100 _ v22) atx)).shape;subst hshp
   have c4' := hS.rdT c4
   (repeat' (first|((first|refine wx1 ?_|refine wx2 ?_ ?_<;>intro hp|refine s_end hk ?_)<;>(clear hk a;intro a hk))|((first|refine wx3 ?_;intro w b|refine wx4 ?_;intro w|refine wx5 ?_;intro w v);clear hk hS a;intro hS a hk)|refine wx0 ?_|fail))
   replace hS := sforR.nil (hS.nilT 41 SnH)
   replace hk := Kn.kp [2, 3, 25, 26, 27] hk
   refine wp_for H.length (fun i _ => [(27, .int .i64 (i : Int))]) (fun i v => [sforR (stlL (kids.take i)) (v.2 : List SnH), OwT 41 v.2 (.slice v.1.1 i v.1.2), pts b3 [.int .i64 0, .int .i64 2, .string tag, .string ⟨#[]⟩, .slice aov16 cl.length cv16, .slice aov19 al.length cv19, .slice aov22 sl.length cv22, .slice v.1.1 i v.1.2] 41, OwT 9 cl (.slice aov16 cl.length cv16), OwT 98 al (.slice aov19 al.length cv19), OwT 100 sl (.slice aov22 sl.length cv22), pts b2 [.int .i64 0, .int .i64 0, .string ⟨#[]⟩, .string ⟨#[]⟩, .slice none 0 0, .slice none 0 0, .slice none 0 0, .slice none 0 0] 41]) (fun _ _ => True) (((none, 0), []) : (Option Addr × Nat) × List SnH) hk skx hS.sb trivial ?_
   clear hk hS a
   rintro j ⟨⟨ak, ck⟩, H'⟩ a w hj hk hS -
   have hFH := hS.soR .here
   have hkl : (stlL (kids.take j)).length = j := by rw [stlL_map, List.length_map, List.length_take, ← hF.1];omega
   have hHl : H'.length = j := by rw [hFH.1, hkl]
   by_cases hjl : j < H.length
   ·obtain ⟨tk, htk⟩ : ∃ t, kids[j]? = some t := ⟨_, List.getElem?_eq_getElem (by rw [← hF.1];exact hjl)⟩
    obtain ⟨hd0, hx⟩ : ∃ x, H[j]? = some x := ⟨_, List.getElem?_eq_getElem hjl⟩
    have hTr := hF.2 j tk hd0 htk hx
    have hfk := l5 tk (List.mem_of_getElem? htk)
    have hlt : SizeOf.sizeOf tk < n := by have := kid_lt (k := k) (tag := tag) (key := key) (text := text) (cl := cl) (at_ := al) (st := sl) (o := (e, lv, m, d, p, q)) (List.mem_of_getElem? htk);omega
    have hst : stlL (kids.take (j + 1)) = stlL (kids.take j) ++ [stl tk] := by rw [stlL_map, stlL_map, take_snoc htk, List.map_append];rfl
    have c4'' := hS.rdT c4
    simp only at hS hk
    obtain ⟨k', tag', key', text', ⟨x1, x2, x3⟩, ⟨y1, y2, y3⟩, ⟨z1, z2, z3⟩, ⟨e', lv', m', d', p', q'⟩, ⟨u1, u2, u3⟩⟩ := hd0
    (repeat' (first|((first|refine wx1 ?_|refine wx2 ?_ ?_<;>intro hp|refine s_end hk ?_)<;>(clear hk a;intro a hk))|((first|refine wx3 ?_;intro w b|refine wx4 ?_;intro w|refine wx5 ?_;intro w v);clear hk hS a;intro hS a hk)|refine wx0 ?_|fail))
    refine wp_drawn 5 mixed (by kernel_rfl) hk hS ?_;clear hk hS a
    (repeat' (first|(show ObxE _ _ _ _ _ _ _ _ _ (_::_) _ _ _;first|refine ox1 ?_|refine ox2 ?_ ?_<;>intro hp)|fail))
    refine' obe_res (fun us a w hk hd hS => ?_) ?_;rotate_left;focus (have hk := Kn.vw hk vwx;exact g_callO hk (hf := by kernel_rfl) (hc := ih tk (k', tag', key', text', ⟨x1, x2, x3⟩, ⟨y1, y2, y3⟩, ⟨z1, z2, z3⟩, (e', lv', m', d', p', q'), ⟨u1, u2, u3⟩) _ hlt hfk (hS.rdTr hTr)) (h := fun _ _ h => h))
    refine' obe_dep 34 3 (V := fun u v => OwT 41 [snOf u] v) (fun us a w hk hd hS => ?_) ?_
    ·have hk := Kn.vw hk vwx
     have hG : (streeH (stl tk) (us 3)).rd w := hd.1
     obtain ⟨⟨id2, k2, tag2, text2, ⟨x12, x22, x32⟩, ⟨y12, y22, y32⟩, ⟨z12, z22, z32⟩, ⟨u12, u22, u32⟩⟩, he, _⟩ := streeH.rd hG
     show Gives _ _ _ _ (fun v w' => St w [OwT 41 [snOf (us 3)] v] w')
     simp only [Nat.zero_add, Nat.reduceAdd] at hk
     rw [he] at hk ⊢
     rw [snOf_snV]
     exact v_bsT (xs := [((id2, k2, tag2, text2, ⟨x12, x22, x32⟩, ⟨y12, y22, y32⟩, ⟨z12, z22, z32⟩, ⟨u12, u22, u32⟩) : SnH)]) (m := 0) hk (hT := eT rfl) (hE := zT rfl) (hz := oT rfl)
    refine obe_nil ⟨rfl, ?_⟩;intro us a w hk hS
    simp only [resE, List.cons_append, List.nil_append, Nat.zero_add, Nat.reduceAdd] at hS
    replace hk := Kn.kp [2, 3, 25, 26, 27, 32, 34, 35] hk
    simp only [HV.of, Nat.zero_add, Nat.reduceAdd] at hk
    generalize us 3 = v34 at hS hk
    generalize us 4 = v35 at hS hk
    obtain ⟨hd1, rfl, hS1⟩ := St.stree hS (.there .here)
    clear hS
    have hS := hS1
    clear hS1
    rw [snOf_snV] at hS
    have hHk : H.length = kids.length := hF.1
    (repeat' (first|((first|refine wx1 ?_|refine wx2 ?_ ?_<;>intro hp|refine s_end hk ?_)<;>(clear hk a;intro a hk))|((first|refine wx3 ?_;intro w b|refine wx4 ?_;intro w|refine wx5 ?_;intro w v);clear hk hS a;intro hS a hk)|refine wx0 ?_|fail))
    have hl1 : (H' ++ [hd1]).length = j + 1 := by rw [List.length_append, hHl];rfl
    rename Value => vn
    obtain ⟨aovn, cvn, hshp, _⟩ := (OwT.rd (hS.rd (A := OwT 41 _ vn) atx)).shape;subst hshp
    rw [hl1] at hS hk
    (repeat' (first|((first|refine wx1 ?_|refine wx2 ?_ ?_<;>intro hp|refine s_end hk ?_)<;>(clear hk a;intro a hk))|((first|refine wx3 ?_;intro w b|refine wx4 ?_;intro w|refine wx5 ?_;intro w v);clear hk hS a;intro hS a hk)|refine wx0 ?_|fail))
    have hS1 := sforR.snoc (L := [OwT 41 (H' ++ [hd1]) (.slice aovn (j + 1) cvn), pts b3 [.int .i64 0, .int .i64 2, .string tag, .string ⟨#[]⟩, .slice aov16 cl.length cv16, .slice aov19 al.length cv19, .slice aov22 sl.length cv22, .slice aovn (j + 1) cvn] 41, OwT 9 cl (.slice aov16 cl.length cv16), OwT 98 al (.slice aov19 al.length cv19), OwT 100 sl (.slice aov22 sl.length cv22), pts b2 [.int .i64 0, .int .i64 0, .string ⟨#[]⟩, .string ⟨#[]⟩, .slice none 0 0, .slice none 0 0, .slice none 0 0, .slice none 0 0] 41]) (ts := stlL (kids.take j)) (H := H') (t := stl tk) (h := hd1) (hS.sub (by (repeat (first | exact Sub.nil | exact Sub.refl | refine Sub.cons atx ?_))))
    rw [← hst] at hS1
    exact ⟨hjl, ((aovn, cvn), H' ++ [hd1]), hk.sd, hS1, trivial⟩
   ·have hjj : j = kids.length := by have := hF.1;omega
    subst hjj
    rw [List.take_length] at hS
    simp only at hS hk
    (repeat' (first|((first|refine wx1 ?_|refine wx2 ?_ ?_<;>intro hp|refine s_end hk ?_)<;>(clear hk a;intro a hk))|((first|refine wx3 ?_;intro w b|refine wx4 ?_;intro w|refine wx5 ?_;intro w v);clear hk hS a;intro hS a hk)|refine wx0 ?_|fail))
    refine done1R hk rfl (.str hS (hT := aT rfl) (hs := zT rfl)) (h := ?_)
    exact streeH.of (h := (0, 2, tag, ⟨#[]⟩, ⟨aov16, cl.length, cv16⟩, ⟨aov19, al.length, cv19⟩, ⟨aov22, sl.length, cv22⟩, ⟨ak, kids.length, ck⟩)) (streeR.of (A1 := OwT 9 cl (.slice aov16 cl.length cv16)) (A2 := OwT 98 al (.slice aov19 al.length cv19)) (A3 := OwT 100 sl (.slice aov22 sl.length cv22)) (A4 := OwT 41 H' (.slice ak kids.length ck)) (hS.sub (by (repeat (first | exact Sub.nil | exact Sub.refl | refine Sub.cons atx ?_)))))
end Go.Proofs.YtgklceoodpocaaaGreatDoor
namespace Go.Proofs.YtgklceoodpocaaaGreatDoor
open Go.RowKit
def Tree.kind : Tree → Int
 | .mk k _ _ _ _ _ _ _ _ => k
def Tree.text : Tree → ByteArray
 | .mk _ _ _ x _ _ _ _ _ => x
def Tree.plus : Tree → ByteArray → Tree
 | .mk k tag key text cl al sl o ks, x => .mk k tag key (text ++ x) cl al sl o ks
def Tree.void (t : Tree) : Prop := t.kind = 1 ∧ t.text = ⟨#[]⟩
instance (t : Tree) : Decidable t.void := by unfold Tree.void; exact inferInstance
def mrgS (out : List Tree) (t : Tree) : List Tree :=
 match out.getLast? with
 | some u => if t.kind = 1 ∧ u.kind = 1 then out.dropLast ++ [u.plus t.text] else out ++ [t]
 | none => out ++ [t]
def mrg (l : List Tree) : List Tree := l.foldl mrgS []
theorem mrg_snoc (l : List Tree) (t : Tree) : mrg (l ++ [t]) = mrgS (mrg l) t := by simp [mrg]
noncomputable section
mutual
def nrm : Tree → Tree
 | .mk k tag key text cl al sl o kids => .mk k tag key text (clnC cl) (snapF nmS al) (snapF nmI sl) o (mrg (nrmL kids))
def nrmL : List Tree → List Tree
 | [] => []
 | t :: ts => if t.void then nrmL ts else nrm t :: nrmL ts
end
end
theorem nrmL_app : ∀ (ts us : List Tree), nrmL (ts ++ us) = nrmL ts ++ nrmL us
 | [], us => by simp [nrmL]
 | t :: ts, us => by
  rw [List.cons_append, nrmL, nrmL, nrmL_app ts us]
  split
  ·rfl
  ·rfl
theorem nrmL_snoc (ts : List Tree) (t : Tree) : nrmL (ts ++ [t]) = if t.void then nrmL ts else nrmL ts ++ [nrm t] := by
 rw [nrmL_app]
 by_cases h : t.void
 ·simp [nrmL, h]
 ·simp [nrmL, h]
theorem nrm_kind (t : Tree) : (nrm t).kind = t.kind := by cases t; simp [nrm, Tree.kind]
theorem nrm_text (t : Tree) : (nrm t).text = t.text := by cases t; simp [nrm, Tree.text]
theorem plus_text (t : Tree) (x : ByteArray) : (t.plus x).text = t.text ++ x := by cases t; rfl
theorem nrmL_len (ts : List Tree) : (nrmL ts).length ≤ ts.length := by
 induction ts with
 | nil => simp [nrmL]
 | cons t ts ih =>
  rw [nrmL]
  split
  ·simp;omega
  ·simp;omega
def txtL (l : List Tree) : Nat := l.foldl (fun n t => n + t.text.size) 0
theorem txtL_snoc (l : List Tree) (t : Tree) : txtL (l ++ [t]) = txtL l + t.text.size := by simp [txtL]
theorem txtL_mem : ∀ {l : List Tree} {t : Tree}, t ∈ l → t.text.size ≤ txtL l := by
 intro l t h
 have : ∀ r : List Tree, t ∈ r.reverse → t.text.size ≤ txtL r.reverse := by
  intro r
  induction r with
  | nil => intro h;simp at h
  | cons u r ih =>
   intro h
   rw [List.reverse_cons] at h ⊢
   rw [txtL_snoc]
   rcases List.mem_append.1 h with h | h
   ·have := ih h;omega
   ·rw [List.mem_singleton] at h;subst h;omega
 have h2 := this l.reverse (by simpa using h)
 simpa using h2
theorem mrgS_txt (out : List Tree) (t : Tree) : txtL (mrgS out t) = txtL out + t.text.size := by
 unfold mrgS
 split
 ·rename_i u hu
  split
  ·rw [txtL_snoc, plus_text, ByteArray.size_append]
   have e : out = out.dropLast ++ [u] := by
    have := List.dropLast_concat_getLast (l := out) (by intro e;subst e;simp at hu)
    rw [List.getLast?_eq_some_getLast (by intro e;subst e;simp at hu)] at hu
    rw [Option.some.inj hu] at this
    exact this.symm
   have e2 : txtL out = txtL out.dropLast + u.text.size := by
    conv => lhs;rw [e]
    rw [txtL_snoc]
   omega
  ·rw [txtL_snoc]
 ·rw [txtL_snoc]
theorem mrg_txt (l : List Tree) : txtL (mrg l) = txtL l := by
 have : ∀ r : List Tree, txtL (mrg r.reverse) = txtL r.reverse := by
  intro r
  induction r with
  | nil => rfl
  | cons u r ih => rw [List.reverse_cons, mrg_snoc, mrgS_txt, ih, txtL_snoc]
 have := this l.reverse
 simpa using this
theorem mrgS_len (out : List Tree) (t : Tree) : (mrgS out t).length ≤ out.length + 1 := by
 unfold mrgS
 split
 ·split
  ·simp
  ·simp
 ·simp
theorem mrgS_app {M : List Tree} {u t : Tree} : mrgS (M ++ [u]) t = if t.kind = 1 ∧ u.kind = 1 then M ++ [u.plus t.text] else M ++ [u] ++ [t] := by
 simp [mrgS]
theorem mrg_len (l : List Tree) : (mrg l).length ≤ l.length := by
 have : ∀ r : List Tree, (mrg r.reverse).length ≤ r.length := by
  intro r
  induction r with
  | nil => simp [mrg]
  | cons u r ih =>
   rw [List.reverse_cons, mrg_snoc, List.length_cons]
   have := mrgS_len (mrg r.reverse) u
   omega
 have := this l.reverse
 simpa using this
inductive Fit (X : Nat) : Tree → Prop
 | mk {k : Int} {tag key text : ByteArray} {cl : List ByteArray} {at_ : List (ByteArray × ByteArray)} {st : List (ByteArray × Int)} {o : Opt} {kids : List Tree}
  (h1 : cl.length ≤ 100) (h2 : at_.length ≤ 100) (h3 : st.length ≤ 100) (h4 : kids.length ≤ 1000) (h5 : text.size ≤ X) (h6 : ∀ t ∈ kids, Fit X t) : Fit X (.mk k tag key text cl at_ st o kids)
theorem Fit.fits {X : Nat} {t : Tree} (h : Fit X t) : Fits t := by
 induction h with
 | mk h1 h2 h3 h4 _ _ ih => exact .mk h1 h2 h3 h4 ih
theorem Fit.text {X : Nat} {t : Tree} (h : Fit X t) : t.text.size ≤ X := by cases h with | mk h1 h2 h3 h4 h5 _ => exact h5
theorem nrmL_txt {X : Nat} : ∀ (ts : List Tree), (∀ t ∈ ts, Fit X t) → txtL (nrmL ts) ≤ X * ts.length
 | [], _ => by simp [nrmL, txtL]
 | t :: ts, h => by
  have ih := nrmL_txt ts (fun t ht => h t (by simp [ht]))
  have h1 := (h t (by simp)).text
  have e : ∀ (u : Tree) (l : List Tree), txtL (u :: l) = u.text.size + txtL l := by
   intro u l
   have : ∀ (l : List Tree) (n : Nat), l.foldl (fun n t => n + t.text.size) n = n + txtL l := by
    intro l
    induction l with
    | nil => intro n;simp [txtL]
    | cons x l ih =>
     intro n
     simp only [txtL, List.foldl_cons]
     rw [ih, ih (0 + x.text.size)]
     omega
   simp only [txtL, List.foldl_cons]
   rw [this l (0 + u.text.size)]
   simp only [txtL]
   omega
  rw [nrmL, List.length_cons, Nat.mul_add, Nat.mul_one]
  split
  ·omega
  ·rw [e, nrm_text];omega
end Go.Proofs.YtgklceoodpocaaaGreatDoor
namespace Go.Proofs.YtgklceoodpocaaaGreatDoor
open Go.RowKit
set_option maxRecDepth 100000
attribute [local irreducible] Go.Code.wpIn Go.wpListIn Go.Calls Gives Go.Exit.then Go.Exit.inBlock Done ObxE
structure N2 where
 H : List NdH
 a : Option Addr
 c : Nat
end Go.Proofs.YtgklceoodpocaaaGreatDoor
namespace Go.Proofs.YtgklceoodpocaaaGreatDoor
open Go.RowKit
set_option maxRecDepth 100000
attribute [local irreducible] Go.Code.wpIn Go.wpListIn Go.Calls Gives Go.Exit.then Go.Exit.inBlock Done ObxE
abbrev zSn : SnH := (0, 0, ⟨#[]⟩, ⟨#[]⟩, ⟨none, 0, 0⟩, ⟨none, 0, 0⟩, ⟨none, 0, 0⟩, ⟨none, 0, 0⟩)
theorem St.flat {g w0 w : World} {L : List HP} (h : St ⟨g, w0⟩ L w) : St w0 [] w := ⟨h.below, Frz.of_below h.below, fun _ => False, fun _ h => h.elim, trivial⟩
end Go.Proofs.YtgklceoodpocaaaGreatDoor
namespace Go.Proofs.YtgklceoodpocaaaGreatDoor
open Go.RowKit
set_option maxRecDepth 100000
attribute [local irreducible] Go.Code.wpIn Go.wpListIn Go.Calls Gives Go.Exit.then Go.Exit.inBlock Done ObxE
theorem rdH.to {K R : World → Prop} (h : ∀ g, K g → R g) {B : Bs} {w : World} {L : List HP} (hS : St B (rdH K :: L) w) : St B (rdH R :: L) w := by
 obtain ⟨F, hF, F1, F2, h1, h2, h3, ⟨hd, g, hl, hz, hk⟩, h5⟩ := hS.own
 exact ⟨hS.below, hS.frz, F, hF, F1, F2, h1, h2, h3, ⟨hd, g, hl, hz, h g hk⟩, h5⟩
theorem stays_and {K R : World → Prop} (h : Stays K) (h' : Stays R) : Stays (fun g => K g ∧ R g) := fun g w hf hr => ⟨h g w hf hr.1, h' g w hf hr.2⟩
def shH (K : World → Prop) (t : STree) (v : Value) : HP := bagH (fun h : SnH => [rdH (fun g => K g ∧ SrR g t h)]) (fun h => v = snV h)
end Go.Proofs.YtgklceoodpocaaaGreatDoor
namespace Go.Proofs.YtgklceoodpocaaaGreatDoor
open Go.RowKit
set_option maxRecDepth 100000
attribute [local irreducible] Go.Code.wpIn Go.wpListIn Go.Calls Gives Go.Exit.then Go.Exit.inBlock Done ObxE
theorem St.tru5 {B : Bs} {w : World} {A : HP} (h : St B [A] w) : St B [A, pureH True] w := by
 obtain ⟨F, hF, F1, F2, h1, h2, h3, h4, h5⟩ := h.own
 exact ⟨h.below, h.frz, F, hF, F1, fun _ => False, h1, fun _ h => h.elim, fun _ _ h => h, h4, fun _ => False, fun _ => False, fun _ h => h, fun _ h => h, fun _ h _ => h, ⟨fun _ h => h, trivial⟩, trivial⟩
theorem appH_ne5 {α : Type} [Enc α] {E : TypeId} {xs : List α} {y : α} {v : Value} : appH E (xs ++ [y]) v = OwT E (xs ++ [y]) v := by
 cases xs <;> rfl
abbrev rdV (D : DomP) (n : Nat) (ao : Option Addr) (c : Nat) : Value := .agg #[.int .i64 D.most, .int .i64 D.next, .slice ao n c]
def Rd5R (D : DomP) (H : List RnH) (ao : Option Addr) (c : Nat) (g : World) : Prop := SlT H (.slice ao H.length c) g ∧ RowsR g D.l H
theorem Rd5R.stays (D : DomP) (H : List RnH) (ao : Option Addr) (c : Nat) : Stays (Rd5R D H ao c) := fun _ _ hf h => ⟨h.1.frz hf, h.2.frz hf⟩
def refO (D : DomP) (r : Value) : HP := bagH (fun y : List RnH × Option Addr × Nat => [rdH (Rd5R D y.1 y.2.1 y.2.2)]) (fun y => r = rdV D y.1.length y.2.1 y.2.2)
section
variable {B : Bs} {w : World} {L L' : List HP}
theorem St.refO {D : DomP} {r : Value} (hS : St B L w) (hat : At (refO D r) L L') : ∃ H ao c, r = rdV D H.length ao c ∧ St B (rdH (Rd5R D H ao c) :: L') w := by
 obtain ⟨⟨H, ao, c⟩, hr, h⟩ := St.bag hS hat
 exact ⟨H, ao, c, hr, h⟩
theorem refO.of {D : DomP} {H : List RnH} {ao : Option Addr} {c : Nat} (hS : St B (rdH (Rd5R D H ao c) :: L) w) : St B (refO D (rdV D H.length ao c) :: L) w := bagH.of (A := fun y : List RnH × Option Addr × Nat => [rdH (Rd5R D y.1 y.2.1 y.2.2)]) (x := (H, ao, c)) hS rfl
theorem St.rdr {D : DomP} {H : List RnH} {ao : Option Addr} {c : Nat} (hS : St B L w) (hat : At (rdH (Rd5R D H ao c)) L L') : Rd5R D H ao c w := rdH.rd (Rd5R.stays D H ao c) (hS.rd hat)
end
def putO (most next : Int) (H : List RnH) (r : Value) : HP := bagH (fun y : Option Addr × Nat => [OwT 73 H (.slice y.1 H.length y.2)]) (fun y => r = .agg #[.int .i64 most, .int .i64 next, .slice y.1 H.length y.2])
theorem putO.rd5 {most next : Int} {H : List RnH} {r : Value} {w : World} (h : (putO most next H r).rd w) : ∃ ao c, r = .agg #[.int .i64 most, .int .i64 next, .slice ao H.length c] ∧ SlT H (.slice ao H.length c) w := by
 obtain ⟨⟨ao, c⟩, hp, F, hs⟩ := bagH.rd h
 exact ⟨ao, c, hp, OwT.rd (hs.rd .here)⟩
theorem St.putO {most next : Int} {H : List RnH} {r : Value} {B : Bs} {w : World} {L L' : List HP} (hS : St B L w) (hat : At (putO most next H r) L L') : ∃ ao c, r = .agg #[.int .i64 most, .int .i64 next, .slice ao H.length c] ∧ St B (OwT 73 H (.slice ao H.length c) :: L') w := by
 obtain ⟨⟨ao, c⟩, hp, h⟩ := St.bag hS hat
 exact ⟨ao, c, hp, h⟩
theorem putR_len (H : List RnH) (h : RnH) : (putR H h).length = H.length := List.length_map _
theorem rputO_any (most next : Int) (H : List RnH) (v : Value) (h : RnH) (w0 : World) (hv : SlT H v w0) (hl : H.length ≤ 1000) :
  Calls Tryz.prog 53 #[.agg #[.int .i64 most, .int .i64 next, v], rnV h] w0 (Ret fun r w => St w0 [putO most next (putR H h) r] w) :=
 (rput5_any most next H v h w0 hv hl).mono (fun e w hh => hh.mono (fun r w ⟨ao, c, e, hS⟩ => by
  subst e
  rw [← putR_len H h] at hS ⊢
  exact bagH.of (A := fun y : Option Addr × Nat => [OwT 73 (putR H h) (.slice y.1 (putR H h).length y.2)]) (x := (ao, c)) hS rfl))
section
variable {B : Bs} {w : World} {L : List HP} {D : DomP} {K : Nat} {r0 : Value}
set_option maxHeartbeats 8000000 in
theorem radd5_any (kind : Int) (s : ByteArray) (hs : s.size ≤ 1000) (hkd : kind = 1 ∨ kind = 2) (hb : Bnd K D) (hK : K ≤ 800) (hn1 : 1 ≤ D.next) (hS : St B (refO D r0 :: L) w) :
  Calls Tryz.prog 19 #[r0, .int .i64 kind, .string s] w (Ret fun v w' => ∃ r, v = .tuple #[r, .int .i64 (if kind = 2 then elemP D s else textP D s).2.1, .int .i64 (if kind = 2 then elemP D s else textP D s).2.2] ∧ St B (refO (if kind = 2 then elemP D s else textP D s).1 r :: L) w') := by
 obtain ⟨H, ao, c, rfl, hS1⟩ := hS.refO .here
 clear hS
 have hS := hS1
 clear hS1
 have hRd := hS.rdr .here
 have hHl := hRd.2.len
 have hlen := hb.len
 have hnx := hb.nx
 have hret : ∀ {w : World} {X : List HP}, Sub (rdH (Rd5R D H ao c) :: L) X → St B X w → St B (refO D (rdV D H.length ao c) :: L) w := fun hs h => refO.of (h.sub hs)
 clear hRd
 refine enter Tryz.func19 rfl Tryz.ntmps19 rfl (fun a hk => ?_)
 refine wpIn_seq ?_;refine wpIn_region_lit ?_
 refine st_box hk hS ?_;clear hk hS a;intro w b3 hS a hk
 refine st_alloc hk hS ?_;clear hk hS a;intro w b6 hS a hk
 rcases hkd with rfl | rfl
 ·rw [if_neg (by decide)]
  unfold textP addP
  have hv1 : SlT H (.slice ao H.length c) w := (hS.rdr (D := D) (H := H) (ao := ao) (c := c) atx).1
  by_cases hf : (D.l.length : Int) > D.most
  ·rw [if_pos hf]
   (repeat' (first|((first|refine wx1 ?_|refine wx2 ?_ ?_<;>intro hp|refine s_end hk ?_)<;>(clear hk a;intro a hk))|((first|refine wx3 ?_;intro w b|refine wx4 ?_;intro w|refine wx5 ?_;intro w v);clear hk hS a;intro hS a hk)|refine wx0 ?_|fail))
   exact done3R hk rfl (.str hS (hT := aT rfl) (hs := zT rfl)) (.tmp rfl) (.tmp rfl) (h := ⟨_, rfl, hret (.cons atx sbx) hS⟩)
  ·rw [if_neg hf]
   (repeat' (first|((first|refine wx1 ?_|refine wx2 ?_ ?_<;>intro hp|refine s_end hk ?_)<;>(clear hk a;intro a hk))|((first|refine wx3 ?_;intro w b|refine wx4 ?_;intro w|refine wx5 ?_;intro w v);clear hk hS a;intro hS a hk)|refine wx0 ?_|fail))
   rename Nat => b9
   clear hv1
   refine wp_drawn 7 mixed (by kernel_rfl) hk hS ?_;clear hk hS a
   refine' obe_res (fun us a w hk hd hS => ?_) ?_;rotate_left;focus (have hk := Kn.vw hk vwx;exact v_bs0 (hT := eT rfl) (hE := zT rfl))
   (repeat' (first|(show ObxE _ _ _ _ _ _ _ _ _ (_::_) _ _ _;first|refine ox1 ?_|refine ox2 ?_ ?_<;>intro hp)|fail))
   refine' obe_lnd 6 (p := fun _ => True) (V := appH 73 H) (fun us a w hk hd hS => ?_) ?_
   ·have hk := Kn.vw hk vwx
    exact (v_appR (ys := H) hk hd.1 (hT := eT rfl) (hTx := eT rfl) (hE := zT rfl) (hz := oT rfl) (hzs := rfl) (hs := (hS.rdr (D := D) (H := H) (ao := ao) (c := c) atx).1) (hby := bT rfl) (hbytes := by omega) (h63 := by simp only [maxLen];omega)).mono (fun _ _ h => St.tru5 h)
   (repeat' (first|(show ObxE _ _ _ _ _ _ _ _ _ (_::_) _ _ _;first|refine ox1 ?_|refine ox2 ?_ ?_<;>intro hp)|fail))
   refine' obe_res (fun us a w hk hd hS => ?_) ?_;rotate_left;focus (have hk := Kn.vw hk vwx;exact v_bsT (xs := [((D.next, 1, ⟨#[]⟩, s, ⟨none, 0, 0⟩, ⟨none, 0, 0⟩, ⟨none, 0, 0⟩, -1, ⟨none, 0, 0⟩) : RnH)]) (m := 0) hk (hT := eT rfl) (hE := zT rfl) (hz := oT rfl))
   refine' obe_tak 38 3 (V := appH 73 (H ++ [((D.next, 1, ⟨#[]⟩, s, ⟨none, 0, 0⟩, ⟨none, 0, 0⟩, ⟨none, 0, 0⟩, -1, ⟨none, 0, 0⟩) : RnH)])) (fun us a w X hk hd hS hL => ?_) ?_
   ·have hk := Kn.vw hk vwx
    exact v_app2 hk hS (hT := eT rfl) (hTx := eT rfl) (hE := zT rfl) (hz := oT rfl) (hzs := rfl) (hs := OwT.rd hd.2.1) (hby := bT rfl) (hbytes := by simp only [List.length_cons, List.length_nil];omega) (h63 := by simp only [List.length_cons, List.length_nil, maxLen];omega)
   refine obe_nil ⟨rfl, ?_⟩;intro us a w hk hS
   simp only [resE, List.cons_append, List.nil_append, Nat.zero_add, Nat.reduceAdd] at hS
   replace hk := Kn.kp [3, 6, 9, 41] hk
   simp only [HV.of, Nat.zero_add, Nat.reduceAdd] at hk
   rename Nat → Value => us
   generalize us 6 = v41 at hS hk
   rw [appH_ne5] at hS
   obtain ⟨aov41, cv41, hshp, _⟩ := (OwT.rd (hS.rd (A := OwT 73 _ v41) atx)).shape;subst hshp
   (repeat' (first|((first|refine wx1 ?_|refine wx2 ?_ ?_<;>intro hp|refine s_end hk ?_)<;>(clear hk a;intro a hk))|((first|refine wx3 ?_;intro w b|refine wx4 ?_;intro w|refine wx5 ?_;intro w v);clear hk hS a;intro hS a hk)|refine wx0 ?_|fail))
   have hS1 := hS.sub (L' := pts b6 [.int .i64 0, .int .i64 0, .slice none 0 0] 28 :: pts b3 [.int .i64 D.most, .int .i64 (D.next + 1), .slice aov41 (H ++ [((D.next, 1, ⟨#[]⟩, s, ⟨none, 0, 0⟩, ⟨none, 0, 0⟩, ⟨none, 0, 0⟩, -1, ⟨none, 0, 0⟩) : RnH)]).length cv41] 28 :: pts b9 [.int .i64 D.next, .int .i64 1, .string ⟨#[]⟩, .string s, .slice none 0 0, .slice none 0 0, .slice none 0 0, .int .i64 (-1), .slice none 0 0] 73 :: OwT 73 (H ++ [((D.next, 1, ⟨#[]⟩, s, ⟨none, 0, 0⟩, ⟨none, 0, 0⟩, ⟨none, 0, 0⟩, -1, ⟨none, 0, 0⟩) : RnH)]) (.slice aov41 (H ++ [((D.next, 1, ⟨#[]⟩, s, ⟨none, 0, 0⟩, ⟨none, 0, 0⟩, ⟨none, 0, 0⟩, -1, ⟨none, 0, 0⟩) : RnH)]).length cv41) :: rdH (Rd5R D H ao c) :: L) (.cons atx (.cons atx (.cons atx (.cons atx (.cons atx sbx)))))
   clear hS
   have hS := hS1
   clear hS1
   refine wp_drawnU1 4 mixed (by kernel_rfl) hk hS ?_;clear hk hS a
   (repeat' (first|(show ObxE _ _ _ _ _ _ _ _ _ (_::_) _ _ _;first|refine ox1 ?_|refine ox2 ?_ ?_<;>intro hp)|fail))
   refine' obe_upd (pts b6 [.int .i64 0, .int .i64 0, .slice none 0 0] 28) (V := fun _ => pts b6 [.int .i64 D.most, .int .i64 (D.next + 1), .slice aov41 (H ++ [((D.next, 1, ⟨#[]⟩, s, ⟨none, 0, 0⟩, ⟨none, 0, 0⟩, ⟨none, 0, 0⟩, -1, ⟨none, 0, 0⟩) : RnH)]).length cv41] 28) (fun us a w X hk hd hS hL => ?_) ?_
   ·(have hk := Kn.vw hk vwx;exact g_store hk hS (fun _ h => h) (hsz := zT rfl))
   refine obe_nil ⟨rfl, ?_⟩;intro us a w hk hS
   simp only [resE, List.cons_append, List.nil_append, Nat.zero_add, Nat.reduceAdd] at hS
   (repeat' (first|((first|refine wx1 ?_|refine wx2 ?_ ?_<;>intro hp|refine s_end hk ?_)<;>(clear hk a;intro a hk))|((first|refine wx3 ?_;intro w b|refine wx4 ?_;intro w|refine wx5 ?_;intro w v);clear hk hS a;intro hS a hk)|refine wx0 ?_|fail))
   refine done3R hk rfl (.str hS (hT := aT rfl) (hs := zT rfl)) (.tmp rfl) (.tmp rfl) (h := ⟨_, rfl, ?_⟩)
   refine refO.of (D := { D with next := D.next + 1, l := D.l ++ [⟨D.next, 1, ⟨#[]⟩, s, [], [], [], -1, []⟩] }) (H := H ++ [((D.next, 1, ⟨#[]⟩, s, ⟨none, 0, 0⟩, ⟨none, 0, 0⟩, ⟨none, 0, 0⟩, -1, ⟨none, 0, 0⟩) : RnH)]) (ao := aov41) (c := cv41) (rdH.of (L1 := [OwT 73 (H ++ [((D.next, 1, ⟨#[]⟩, s, ⟨none, 0, 0⟩, ⟨none, 0, 0⟩, ⟨none, 0, 0⟩, -1, ⟨none, 0, 0⟩) : RnH)]) (.slice aov41 (H ++ [((D.next, 1, ⟨#[]⟩, s, ⟨none, 0, 0⟩, ⟨none, 0, 0⟩, ⟨none, 0, 0⟩, -1, ⟨none, 0, 0⟩) : RnH)]).length cv41), rdH (Rd5R D H ao c)]) (hS.sub (.cons atx (.cons atx sbx))) fun g hg => ?_)
   have g1 := OwT.rd (hg (OwT 73 (H ++ [((D.next, 1, ⟨#[]⟩, s, ⟨none, 0, 0⟩, ⟨none, 0, 0⟩, ⟨none, 0, 0⟩, -1, ⟨none, 0, 0⟩) : RnH)]) (.slice aov41 (H ++ [((D.next, 1, ⟨#[]⟩, s, ⟨none, 0, 0⟩, ⟨none, 0, 0⟩, ⟨none, 0, 0⟩, -1, ⟨none, 0, 0⟩) : RnH)]).length cv41)) (by simp))
   have g2 := rdH.rd (Rd5R.stays D H ao c) (hg (rdH (Rd5R D H ao c)) (by simp))
   exact ⟨g1, g2.2.snoc ⟨none, 0, none, 0, none, 0, none, 0, rfl, SlT.nil (α := ByteArray) g, SlT.nil (α := ByteArray × ByteArray) g, SlT.nil (α := ByteArray × Int) g, SlT.nil (α := Int) g⟩⟩
 ·rw [if_pos rfl]
  unfold elemP
  cases hnm : nameS s with
  | false =>
   rw [if_neg (by simp)]
   (repeat' (first|((first|refine wx1 ?_|refine wx2 ?_ ?_<;>intro hp|refine s_end hk ?_)<;>(clear hk a;intro a hk))|((first|refine wx3 ?_;intro w b|refine wx4 ?_;intro w|refine wx5 ?_;intro w v);clear hk hS a;intro hS a hk)|refine wx0 ?_|fail))
   refine sg hk (g_callO hk (hf := by kernel_rfl) (hc := rname_any s hs _) (h := ?_));clear hk a;rintro _ w ⟨rfl, hS1⟩ a hk;replace hS := hS.call0 hS1;clear hS1
   rw [hnm] at hk
   (repeat' (first|((first|refine wx1 ?_|refine wx2 ?_ ?_<;>intro hp|refine s_end hk ?_)<;>(clear hk a;intro a hk))|((first|refine wx3 ?_;intro w b|refine wx4 ?_;intro w|refine wx5 ?_;intro w v);clear hk hS a;intro hS a hk)|refine wx0 ?_|fail))
   exact done3R hk rfl (.str hS (hT := aT rfl) (hs := zT rfl)) (.tmp rfl) (.tmp rfl) (h := ⟨_, rfl, hret (.cons atx sbx) hS⟩)
  | true =>
   rw [if_pos rfl]
   unfold addP
   (repeat' (first|((first|refine wx1 ?_|refine wx2 ?_ ?_<;>intro hp|refine s_end hk ?_)<;>(clear hk a;intro a hk))|((first|refine wx3 ?_;intro w b|refine wx4 ?_;intro w|refine wx5 ?_;intro w v);clear hk hS a;intro hS a hk)|refine wx0 ?_|fail))
   refine sg hk (g_callO hk (hf := by kernel_rfl) (hc := rname_any s hs _) (h := ?_));clear hk a;rintro _ w ⟨rfl, hS1⟩ a hk;replace hS := hS.call0 hS1;clear hS1
   rw [hnm] at hk
   have hv1 : SlT H (.slice ao H.length c) w := (hS.rdr (D := D) (H := H) (ao := ao) (c := c) atx).1
   by_cases hf : (D.l.length : Int) > D.most
   ·rw [if_pos hf]
    (repeat' (first|((first|refine wx1 ?_|refine wx2 ?_ ?_<;>intro hp|refine s_end hk ?_)<;>(clear hk a;intro a hk))|((first|refine wx3 ?_;intro w b|refine wx4 ?_;intro w|refine wx5 ?_;intro w v);clear hk hS a;intro hS a hk)|refine wx0 ?_|fail))
    exact done3R hk rfl (.str hS (hT := aT rfl) (hs := zT rfl)) (.tmp rfl) (.tmp rfl) (h := ⟨_, rfl, hret (.cons atx sbx) hS⟩)
   ·rw [if_neg hf]
    (repeat' (first|((first|refine wx1 ?_|refine wx2 ?_ ?_<;>intro hp|refine s_end hk ?_)<;>(clear hk a;intro a hk))|((first|refine wx3 ?_;intro w b|refine wx4 ?_;intro w|refine wx5 ?_;intro w v);clear hk hS a;intro hS a hk)|refine wx0 ?_|fail))
    rename Nat => b9
    clear hv1
    refine wp_drawn 7 mixed (by kernel_rfl) hk hS ?_;clear hk hS a
    refine' obe_res (fun us a w hk hd hS => ?_) ?_;rotate_left;focus (have hk := Kn.vw hk vwx;exact v_bs0 (hT := eT rfl) (hE := zT rfl))
    (repeat' (first|(show ObxE _ _ _ _ _ _ _ _ _ (_::_) _ _ _;first|refine ox1 ?_|refine ox2 ?_ ?_<;>intro hp)|fail))
    refine' obe_lnd 6 (p := fun _ => True) (V := appH 73 H) (fun us a w hk hd hS => ?_) ?_
    ·have hk := Kn.vw hk vwx
     exact (v_appR (ys := H) hk hd.1 (hT := eT rfl) (hTx := eT rfl) (hE := zT rfl) (hz := oT rfl) (hzs := rfl) (hs := (hS.rdr (D := D) (H := H) (ao := ao) (c := c) atx).1) (hby := bT rfl) (hbytes := by omega) (h63 := by simp only [maxLen];omega)).mono (fun _ _ h => St.tru5 h)
    (repeat' (first|(show ObxE _ _ _ _ _ _ _ _ _ (_::_) _ _ _;first|refine ox1 ?_|refine ox2 ?_ ?_<;>intro hp)|fail))
    refine' obe_res (fun us a w hk hd hS => ?_) ?_;rotate_left;focus (have hk := Kn.vw hk vwx;exact v_bsT (xs := [((D.next, 2, s, ⟨#[]⟩, ⟨none, 0, 0⟩, ⟨none, 0, 0⟩, ⟨none, 0, 0⟩, -1, ⟨none, 0, 0⟩) : RnH)]) (m := 0) hk (hT := eT rfl) (hE := zT rfl) (hz := oT rfl))
    refine' obe_tak 38 3 (V := appH 73 (H ++ [((D.next, 2, s, ⟨#[]⟩, ⟨none, 0, 0⟩, ⟨none, 0, 0⟩, ⟨none, 0, 0⟩, -1, ⟨none, 0, 0⟩) : RnH)])) (fun us a w X hk hd hS hL => ?_) ?_
    ·have hk := Kn.vw hk vwx
     exact v_app2 hk hS (hT := eT rfl) (hTx := eT rfl) (hE := zT rfl) (hz := oT rfl) (hzs := rfl) (hs := OwT.rd hd.2.1) (hby := bT rfl) (hbytes := by simp only [List.length_cons, List.length_nil];omega) (h63 := by simp only [List.length_cons, List.length_nil, maxLen];omega)
    refine obe_nil ⟨rfl, ?_⟩;intro us a w hk hS
    simp only [resE, List.cons_append, List.nil_append, Nat.zero_add, Nat.reduceAdd] at hS
    replace hk := Kn.kp [3, 6, 9, 41] hk
    simp only [HV.of, Nat.zero_add, Nat.reduceAdd] at hk
    rename Nat → Value => us
    generalize us 6 = v41 at hS hk
    rw [appH_ne5] at hS
    obtain ⟨aov41, cv41, hshp, _⟩ := (OwT.rd (hS.rd (A := OwT 73 _ v41) atx)).shape;subst hshp
    (repeat' (first|((first|refine wx1 ?_|refine wx2 ?_ ?_<;>intro hp|refine s_end hk ?_)<;>(clear hk a;intro a hk))|((first|refine wx3 ?_;intro w b|refine wx4 ?_;intro w|refine wx5 ?_;intro w v);clear hk hS a;intro hS a hk)|refine wx0 ?_|fail))
    have hS1 := hS.sub (L' := pts b6 [.int .i64 0, .int .i64 0, .slice none 0 0] 28 :: pts b3 [.int .i64 D.most, .int .i64 (D.next + 1), .slice aov41 (H ++ [((D.next, 2, s, ⟨#[]⟩, ⟨none, 0, 0⟩, ⟨none, 0, 0⟩, ⟨none, 0, 0⟩, -1, ⟨none, 0, 0⟩) : RnH)]).length cv41] 28 :: pts b9 [.int .i64 D.next, .int .i64 2, .string s, .string ⟨#[]⟩, .slice none 0 0, .slice none 0 0, .slice none 0 0, .int .i64 (-1), .slice none 0 0] 73 :: OwT 73 (H ++ [((D.next, 2, s, ⟨#[]⟩, ⟨none, 0, 0⟩, ⟨none, 0, 0⟩, ⟨none, 0, 0⟩, -1, ⟨none, 0, 0⟩) : RnH)]) (.slice aov41 (H ++ [((D.next, 2, s, ⟨#[]⟩, ⟨none, 0, 0⟩, ⟨none, 0, 0⟩, ⟨none, 0, 0⟩, -1, ⟨none, 0, 0⟩) : RnH)]).length cv41) :: rdH (Rd5R D H ao c) :: L) (.cons atx (.cons atx (.cons atx (.cons atx (.cons atx sbx)))))
    clear hS
    have hS := hS1
    clear hS1
    refine wp_drawnU1 4 mixed (by kernel_rfl) hk hS ?_;clear hk hS a
    (repeat' (first|(show ObxE _ _ _ _ _ _ _ _ _ (_::_) _ _ _;first|refine ox1 ?_|refine ox2 ?_ ?_<;>intro hp)|fail))
    refine' obe_upd (pts b6 [.int .i64 0, .int .i64 0, .slice none 0 0] 28) (V := fun _ => pts b6 [.int .i64 D.most, .int .i64 (D.next + 1), .slice aov41 (H ++ [((D.next, 2, s, ⟨#[]⟩, ⟨none, 0, 0⟩, ⟨none, 0, 0⟩, ⟨none, 0, 0⟩, -1, ⟨none, 0, 0⟩) : RnH)]).length cv41] 28) (fun us a w X hk hd hS hL => ?_) ?_
    ·(have hk := Kn.vw hk vwx;exact g_store hk hS (fun _ h => h) (hsz := zT rfl))
    refine obe_nil ⟨rfl, ?_⟩;intro us a w hk hS
    simp only [resE, List.cons_append, List.nil_append, Nat.zero_add, Nat.reduceAdd] at hS
    (repeat' (first|((first|refine wx1 ?_|refine wx2 ?_ ?_<;>intro hp|refine s_end hk ?_)<;>(clear hk a;intro a hk))|((first|refine wx3 ?_;intro w b|refine wx4 ?_;intro w|refine wx5 ?_;intro w v);clear hk hS a;intro hS a hk)|refine wx0 ?_|fail))
    refine done3R hk rfl (.str hS (hT := aT rfl) (hs := zT rfl)) (.tmp rfl) (.tmp rfl) (h := ⟨_, rfl, ?_⟩)
    refine refO.of (D := { D with next := D.next + 1, l := D.l ++ [⟨D.next, 2, s, ⟨#[]⟩, [], [], [], -1, []⟩] }) (H := H ++ [((D.next, 2, s, ⟨#[]⟩, ⟨none, 0, 0⟩, ⟨none, 0, 0⟩, ⟨none, 0, 0⟩, -1, ⟨none, 0, 0⟩) : RnH)]) (ao := aov41) (c := cv41) (rdH.of (L1 := [OwT 73 (H ++ [((D.next, 2, s, ⟨#[]⟩, ⟨none, 0, 0⟩, ⟨none, 0, 0⟩, ⟨none, 0, 0⟩, -1, ⟨none, 0, 0⟩) : RnH)]) (.slice aov41 (H ++ [((D.next, 2, s, ⟨#[]⟩, ⟨none, 0, 0⟩, ⟨none, 0, 0⟩, ⟨none, 0, 0⟩, -1, ⟨none, 0, 0⟩) : RnH)]).length cv41), rdH (Rd5R D H ao c)]) (hS.sub (.cons atx (.cons atx sbx))) fun g hg => ?_)
    have g1 := OwT.rd (hg (OwT 73 (H ++ [((D.next, 2, s, ⟨#[]⟩, ⟨none, 0, 0⟩, ⟨none, 0, 0⟩, ⟨none, 0, 0⟩, -1, ⟨none, 0, 0⟩) : RnH)]) (.slice aov41 (H ++ [((D.next, 2, s, ⟨#[]⟩, ⟨none, 0, 0⟩, ⟨none, 0, 0⟩, ⟨none, 0, 0⟩, -1, ⟨none, 0, 0⟩) : RnH)]).length cv41)) (by simp))
    have g2 := rdH.rd (Rd5R.stays D H ao c) (hg (rdH (Rd5R D H ao c)) (by simp))
    exact ⟨g1, g2.2.snoc ⟨none, 0, none, 0, none, 0, none, 0, rfl, SlT.nil (α := ByteArray) g, SlT.nil (α := ByteArray × ByteArray) g, SlT.nil (α := ByteArray × Int) g, SlT.nil (α := Int) g⟩⟩
theorem fnd_at {H : List RnH} {ao : Option Addr} {c : Nat} {id : Int} {n : NodeP} {x : RnH} {g : World} (hR : Rd5R D H ao c g) (hn : D.f id = some n) (hx : fndR H id = some x) : RnR g n x := by
 obtain ⟨y, hy, hr⟩ := hR.2.fnd hn
 rw [hx] at hy
 cases hy
 exact hr
end
end Go.Proofs.YtgklceoodpocaaaGreatDoor
namespace Go.Proofs.YtgklceoodpocaaaGreatDoor
open Go.RowKit
def encI (n : Int) : Value := .int .i64 n
theorem keyI : KeyT Tryz.prog 3 encI := keyInt (iT rfl)
theorem mapH.shape {κ : Type} {enc : κ → Value} {v : Value} {l : List (κ × Value)} {w : World} (h : (mapH enc v l).rd w) : ∃ b, v = .map (some b) :=
 let ⟨_, b, _, _, h1, _⟩ := h
 ⟨b, h1⟩
end Go.Proofs.YtgklceoodpocaaaGreatDoor
namespace Go.Proofs.YtgklceoodpocaaaGreatDoor
open Go.RowKit
set_option maxRecDepth 100000
attribute [local irreducible] Go.Code.wpIn Go.wpListIn Go.Calls Gives Go.Exit.then Go.Exit.inBlock Done ObxE
abbrev pA (b : Nat) : Value := .pointer (some ⟨b, 0, none⟩)
abbrev NoA := (Option Addr × Nat) × (Option Addr × Nat) × (Option Addr × Nat) × (Option Addr × Nat)
abbrev nodC (n : NodeP) (y : NoA) : List Value :=
 [.int .i64 n.id, .int .i64 n.kind, .string n.tag, .string n.text, .slice y.1.1 n.cls.length y.1.2, .slice y.2.1.1 n.att.length y.2.1.2, .slice y.2.2.1.1 n.sty.length y.2.2.1.2, .int .i64 n.par, .slice y.2.2.2.1 n.kids.length y.2.2.2.2]
abbrev nodeL (b : Nat) (n : NodeP) (y : NoA) : List HP :=
 [pts b (nodC n y) 71, OwT 9 n.cls (.slice y.1.1 n.cls.length y.1.2), OwT 98 n.att (.slice y.2.1.1 n.att.length y.2.1.2),
  OwT 100 n.sty (.slice y.2.2.1.1 n.sty.length y.2.2.1.2), OwT 3 n.kids (.slice y.2.2.2.1 n.kids.length y.2.2.2.2)]
def nodH (b : Nat) (n : NodeP) : HP := bagH (fun y : NoA => nodeL b n y) (fun _ => True)
def ndsL (bl : Int → Nat) (l : List NodeP) : List HP := l.map (fun n => nodH (bl n.id) n)
def ndsH (bl : Int → Nat) (l : List NodeP) : HP := bagH (fun _ : Unit => ndsL bl l) (fun _ => True)
def mapL (bl : Int → Nat) (l : List NodeP) : List (Int × Value) := l.map (fun n => (n.id, pA (bl n.id)))
abbrev domC5 (D : DomP) (bm : Nat) : List Value := [.int .i64 D.most, .int .i64 D.next, .map (some bm)]
abbrev domL (bd : Nat) (D : DomP) (bm : Nat) (bl : Int → Nat) : List HP := [pts bd (domC5 D bm) 67, mapH encI (.map (some bm)) (mapL bl D.l), ndsH bl D.l]
def domH (bd : Nat) (D : DomP) : HP := bagH (fun y : Nat × (Int → Nat) => domL bd D y.1 y.2) (fun _ => True)
theorem Sep.perm {w : World} {L L' : List HP} (h : List.Perm L L') : ∀ {F : Nat → Prop}, Sep L F w → Sep L' F w := by
 induction h with
 | nil => exact fun h => h
 | cons x _ ih => exact fun ⟨F1, F2, h1, h2, h3, h4, h5⟩ => ⟨F1, F2, h1, h2, h3, h4, ih h5⟩
 | swap x y l => exact fun h => h.sub (.cons (.there .here) (.cons .here .refl))
 | trans _ _ ih1 ih2 => exact fun h => ih2 (ih1 h)
def ousP (l : List NodeP) (id : Int) : List NodeP := l.filter (fun x => decide (x.id ≠ id))
theorem out_perm {l : List NodeP} (hu : (l.map (·.id)).Nodup) {id : Int} {n : NodeP} (hn : fnP l id = some n) : List.Perm l (n :: ousP l id) := by
 induction l with
 | nil => cases hn
 | cons x l ih =>
  simp only [List.map_cons, List.nodup_cons] at hu
  unfold fnP at hn
  unfold ousP at *
  by_cases hx : x.id = id
  ·rw [if_pos hx] at hn
   cases hn
   have : l.filter (fun y => decide (y.id ≠ id)) = l := List.filter_eq_self.2 fun y hy => decide_eq_true fun e => hu.1 (by rw [hx, ← e];exact List.mem_map_of_mem hy)
   rw [List.filter_cons, if_neg (by simp [hx]), this]
  ·rw [if_neg hx] at hn
   rw [List.filter_cons, if_pos (by simpa using hx)]
   exact ((ih hu.2 hn).cons x).trans (.swap _ _ _)
theorem out_put {l : List NodeP} {n : NodeP} : ousP (putP l n) n.id = ousP l n.id := by
 induction l with
 | nil => rfl
 | cons x l ih =>
  unfold ousP putP at *
  rw [List.map_cons, List.filter_cons, List.filter_cons, ih]
  by_cases hx : x.id = n.id
  ·rw [if_pos hx];simp [hx]
  ·rw [if_neg hx]
theorem put_perm {l : List NodeP} (hu : (l.map (·.id)).Nodup) {n n' : NodeP} (hn : fnP l n'.id = some n) : List.Perm (putP l n') (n' :: ousP l n'.id) := by
 have h1 : fnP (putP l n') n'.id = some n' := by rw [fnd_put_some hn, if_pos rfl]
 have := out_perm (l := putP l n') (by rw [put_ids];exact hu) h1
 rwa [out_put] at this
theorem out_f (l : List NodeP) (id i : Int) : fnP (ousP l id) i = if i = id then none else fnP l i := by
 unfold ousP
 rw [fnd_filter l (fun i => decide (i ≠ id))]
 by_cases h : i = id
 ·rw [if_neg (by simpa using h), if_pos h]
 ·rw [if_pos (by simpa using h), if_neg h]
theorem out_uni {l : List NodeP} (hu : (l.map (·.id)).Nodup) (id : Int) : ((ousP l id).map (·.id)).Nodup := hu.sublist (List.Sublist.map _ List.filter_sublist)
section
variable {B : Bs} {w : World} {L L' : List HP} {bl : Int → Nat} {l : List NodeP}
theorem St.perm (h : St B L w) (hp : List.Perm L L') : St B L' w := ⟨h.below, h.frz, let ⟨F, hF, hs⟩ := h.own; ⟨F, hF, hs.perm hp⟩⟩
theorem nodH.of {b : Nat} {n : NodeP} {y : NoA} (hS : St B (nodeL b n y ++ L) w) : St B (nodH b n :: L) w := bagH.of (A := fun y : NoA => nodeL b n y) (x := y) hS trivial
theorem St.nod {b : Nat} {n : NodeP} (hS : St B L w) (hat : At (nodH b n) L L') : ∃ a1 c1 a2 c2 a3 c3 a4 c4, St B (nodeL b n ((a1, c1), (a2, c2), (a3, c3), (a4, c4)) ++ L') w := by
 obtain ⟨⟨⟨a1, c1⟩, ⟨a2, c2⟩, ⟨a3, c3⟩, ⟨a4, c4⟩⟩, -, h⟩ := St.bag hS hat
 exact ⟨a1, c1, a2, c2, a3, c3, a4, c4, h⟩
theorem nodH.get {b : Nat} {n : NodeP} (h : (nodH b n).rd w) : ∃ a1 c1 a2 c2 a3 c3 a4 c4, (pts b (nodC n ((a1, c1), (a2, c2), (a3, c3), (a4, c4))) 71).rd w ∧ SlT n.cls (.slice a1 n.cls.length c1) w ∧ SlT n.att (.slice a2 n.att.length c2) w ∧ SlT n.sty (.slice a3 n.sty.length c3) w ∧ SlT n.kids (.slice a4 n.kids.length c4) w := by
 obtain ⟨⟨⟨a1, c1⟩, ⟨a2, c2⟩, ⟨a3, c3⟩, ⟨a4, c4⟩⟩, -, F, h⟩ := bagH.rd h
 exact ⟨a1, c1, a2, c2, a3, c3, a4, c4, h.rd .here, OwT.rd (h.rd (.there .here)), OwT.rd (h.rd (.there (.there .here))), OwT.rd (h.rd (.there (.there (.there .here)))), OwT.rd (h.rd (.there (.there (.there (.there .here)))))⟩
theorem ndsH.of (hS : St B (ndsL bl l ++ L) w) : St B (ndsH bl l :: L) w := bagH.of (A := fun _ : Unit => ndsL bl l) (x := ()) hS trivial
theorem St.nds (hS : St B L w) (hat : At (ndsH bl l) L L') : St B (ndsL bl l ++ L') w := by
 obtain ⟨⟨⟩, -, h⟩ := St.bag hS hat
 exact h
theorem ndsH.rd {id : Int} {n : NodeP} (h : (ndsH bl l).rd w) (hn : fnP l id = some n) : (nodH (bl id) n).rd w := by
 obtain ⟨⟨⟩, -, F, hs⟩ := bagH.rd h
 obtain ⟨F', -, h1⟩ := hs.all (nodH (bl n.id) n) (List.mem_map_of_mem (f := fun n => nodH (bl n.id) n) (fnd_mem hn))
 rw [fnd_id hn] at h1
 exact ⟨F', h1⟩
theorem St.out (hS : St B L w) (hat : At (ndsH bl l) L L') (hu : (l.map (·.id)).Nodup) {id : Int} {n : NodeP} (hn : fnP l id = some n) : St B (nodH (bl id) n :: ndsH bl (ousP l id) :: L') w := by
 have h1 := hS.nds hat
 have hp : List.Perm (ndsL bl l ++ L') (ndsL bl (ousP l id) ++ (nodH (bl id) n :: L')) := by
  have := (List.Perm.map (fun n => nodH (bl n.id) n) (out_perm hu hn)).append_right L'
  rw [List.map_cons, fnd_id hn] at this
  exact this.trans List.perm_middle.symm
 exact (ndsH.of (h1.perm hp)).perm (.swap _ _ _)
theorem ndsH.put {n n' : NodeP} (hu : (l.map (·.id)).Nodup) (hn : fnP l n'.id = some n) (hS : St B (nodH (bl n'.id) n' :: ndsH bl (ousP l n'.id) :: L) w) : St B (ndsH bl (putP l n') :: L) w := by
 have h1 := hS.nds (.there .here)
 refine ndsH.of (h1.perm ?_)
 have := (List.Perm.map (fun n => nodH (bl n.id) n) (put_perm hu hn)).append_right L
 rw [List.map_cons] at this
 exact (List.perm_middle.trans this.symm)
theorem ndsL_up {b : Nat} {i : Int} (h : ∀ x ∈ l, x.id ≠ i) : ndsL (fun j => if j = i then b else bl j) l = ndsL bl l := by
 unfold ndsL
 refine List.map_congr_left fun x hx => ?_
 show nodH (if x.id = i then b else bl x.id) x = _
 rw [if_neg (h x hx)]
theorem mapL_up {b : Nat} {i : Int} (h : ∀ x ∈ l, x.id ≠ i) : mapL (fun j => if j = i then b else bl j) l = mapL bl l := by
 unfold mapL
 refine List.map_congr_left fun x hx => ?_
 show (x.id, pA (if x.id = i then b else bl x.id)) = _
 rw [if_neg (h x hx)]
theorem ndsH.add {b : Nat} {n : NodeP} (h : ∀ x ∈ l, x.id ≠ n.id) (hS : St B (nodH b n :: ndsH bl l :: L) w) : St B (ndsH (fun j => if j = n.id then b else bl j) (l ++ [n]) :: L) w := by
 have h1 := hS.nds (.there .here)
 refine ndsH.of (h1.perm ?_)
 have e : ndsL (fun j => if j = n.id then b else bl j) (l ++ [n]) = ndsL bl l ++ [nodH b n] := by
  have := ndsL_up (bl := bl) (b := b) h
  unfold ndsL at this ⊢
  rw [List.map_append, this]
  simp
 rw [e, List.append_assoc]
 exact List.Perm.refl _
theorem Sub.of_sublist {L1 L2 : List HP} (h : List.Sublist L1 L2) (X : List HP) : Sub (L1 ++ X) (L2 ++ X) := by
 induction h with
 | slnil => exact .refl
 | cons a _ ih => exact ih.under
 | cons_cons a _ ih => exact .cons .here ih
theorem ndsH.less {l' : List NodeP} (hl : List.Sublist l' l) (hS : St B (ndsH bl l :: L) w) : St B (ndsH bl l' :: L) w := by
 have h1 := hS.nds .here
 exact ndsH.of (h1.sub (Sub.of_sublist (List.Sublist.map _ hl) L))
theorem mapL_put (n : NodeP) : mapL bl (putP l n) = mapL bl l := by
 unfold mapL putP
 rw [List.map_map]
 refine List.map_congr_left fun x _ => ?_
 simp only [Function.comp]
 split
 ·rename_i h;rw [h]
 ·rfl
theorem getL_mapL (id : Int) : getL (mapL bl l) id = (fnP l id).map (fun _ => pA (bl id)) := by
 induction l with
 | nil => rfl
 | cons x l ih =>
  have ih : getL (mapL bl l) id = _ := ih
  show getL ((x.id, pA (bl x.id)) :: mapL bl l) id = _
  rw [getL_cons, ih]
  unfold fnP
  by_cases h : x.id = id
  ·rw [if_pos h, if_pos h.symm, h];rfl
  ·rw [if_neg h, if_neg (fun e => h e.symm)]
   cases l <;> rfl
theorem setL_mapL {id : Int} {b : Nat} (h : ∀ x ∈ l, x.id ≠ id) : setL (mapL bl l) id (pA b) = mapL bl l ++ [(id, pA b)] := by
 induction l with
 | nil => rfl
 | cons x l ih =>
  show setL ((x.id, pA (bl x.id)) :: mapL bl l) id (pA b) = _
  unfold setL
  rw [if_neg (fun e => h x (by simp) e.symm), ih (fun y hy => h y (by simp [hy]))]
  rfl
theorem delL_mapL (hu : (l.map (·.id)).Nodup) (id : Int) : delL (mapL bl l) id = mapL bl (ousP l id) := by
 induction l with
 | nil => rfl
 | cons x l ih =>
  simp only [List.map_cons, List.nodup_cons] at hu
  show delL ((x.id, pA (bl x.id)) :: mapL bl l) id = _
  unfold delL
  unfold ousP at *
  by_cases h : x.id = id
  ·rw [if_pos h.symm, List.filter_cons, if_neg (by simp [h])]
   have : l.filter (fun y => decide (y.id ≠ id)) = l := List.filter_eq_self.2 fun y hy => decide_eq_true fun e => hu.1 (by rw [h, ← e];exact List.mem_map_of_mem hy)
   rw [this]
  ·rw [if_neg (fun e => h e.symm), List.filter_cons, if_pos (by simpa using h), ih hu.2]
   rfl
structure DomR (bd : Nat) (D : DomP) (bm : Nat) (bl : Int → Nat) (w : World) : Prop where
 d : (pts bd (domC5 D bm) 67).rd w
 m : (mapH encI (.map (some bm)) (mapL bl D.l)).rd w
 n : (ndsH bl D.l).rd w
theorem DomR.mono {bd : Nat} {D : DomP} {bm : Nat} {w w' : World} (h : DomR bd D bm bl w) (hb : Below w.heap.size w w') : DomR bd D bm bl w' := ⟨h.d.mono hb, h.m.mono hb, h.n.mono hb⟩
theorem domH.get {bd : Nat} {D : DomP} (h : (domH bd D).rd w) : ∃ bm bl, DomR bd D bm bl w := by
 obtain ⟨⟨bm, bl⟩, -, F, h⟩ := bagH.rd h
 exact ⟨bm, bl, h.rd .here, h.rd (.there .here), h.rd (.there (.there .here))⟩
theorem domH.of {bd : Nat} {D : DomP} {bm : Nat} (hS : St B (domL bd D bm bl ++ L) w) : St B (domH bd D :: L) w := bagH.of (A := fun y : Nat × (Int → Nat) => domL bd D y.1 y.2) (x := (bm, bl)) hS trivial
theorem St.dom {bd : Nat} {D : DomP} (hS : St B L w) (hat : At (domH bd D) L L') : ∃ bm bl, St B (domL bd D bm bl ++ L') w := by
 obtain ⟨⟨bm, bl⟩, -, h⟩ := St.bag hS hat
 exact ⟨bm, bl, h⟩
theorem St.domR {bd : Nat} {D : DomP} {bm : Nat} (hS : St B (domL bd D bm bl ++ L) w) : DomR bd D bm bl w := ⟨hS.rd .here, hS.rd (.there .here), hS.rd (.there (.there .here))⟩
end
end Go.Proofs.YtgklceoodpocaaaGreatDoor
