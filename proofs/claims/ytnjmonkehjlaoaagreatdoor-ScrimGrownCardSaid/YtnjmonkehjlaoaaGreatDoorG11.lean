/- Layer 6: what was done with nodes. Layer 4's reference, and what the statements of later layers begin with. Layer 7's reference: attributes, by their names. Layer 3's reference: lists of texts, each once. Layer 7: views as the program's own; views of flat nodes. Layer 7: nodes told flat, each with how deep it stands. Layer 7: views of flat nodes. Layer 7: views as they are shown, in plain words. Layer 7: which views may be, in plain words. The top (grown): nodes grown from a view, what was noted done again: in plain words. Trees with longer lists. The top (grown): a view becomes the kid of a node; ops done again; the order of nodes. -/
import Derived.Test.YtnjmonkehjlaoaaGreatDoorG10
import Derived.Test.YtnjmonkehjlaoaaGreatDoorG08
import Derived.Test.YtnjmonkehjlaoaaGreatDoorG09
set_option linter.all false
namespace Go.Proofs.YtnjmonkehjlaoaaGreatDoor
open Go.RowKit
set_option maxRecDepth 100000
attribute [local irreducible] Go.Code.wpIn Go.wpListIn Go.Calls Gives Go.Exit.then Go.Exit.inBlock Done ObxE
abbrev OpP := Int × Int × Int × Int × ByteArray × ByteArray
abbrev opC (o : OpP) : List Value := [.int .i64 o.1, .int .i64 o.2.1, .int .i64 o.2.2.1, .int .i64 o.2.2.2.1, .string o.2.2.2.2.1, .string o.2.2.2.2.2]
abbrev trailL (bl bd : Nat) (ops : List OpP) (y : Option Addr × Nat) : List HP := [pts bl [pA bd, .slice y.1 ops.length y.2] 54, OwT 97 ops (.slice y.1 ops.length y.2)]
def trailH (bl bd : Nat) (ops : List OpP) : HP := bagH (fun y : Option Addr × Nat => trailL bl bd ops y) (fun _ => True)
section
variable {B : Bs} {w : World} {L L' : List HP}
theorem St.trail {bl bd : Nat} {ops : List OpP} (hS : St B L w) (hat : At (trailH bl bd ops) L L') : ∃ a c, St B (trailL bl bd ops (a, c) ++ L') w := by
 obtain ⟨⟨a, c⟩, -, h⟩ := St.bag hS hat
 exact ⟨a, c, h⟩
theorem trailH.of {bl bd : Nat} {ops : List OpP} {y : Option Addr × Nat} (hS : St B (trailL bl bd ops y ++ L) w) : St B (trailH bl bd ops :: L) w := bagH.of (A := fun y : Option Addr × Nat => trailL bl bd ops y) (x := y) hS trivial
end
def noteP (e : Int) (ops : List OpP) (o : OpP) : List OpP := if e = 0 then ops ++ [o] else ops
theorem on6_any (bd : Nat) (w0 : World) : Calls Tryz.prog 10 #[pA bd] w0 (Ret fun v w => ∃ bl, v = pA bl ∧ St w0 [trailH bl bd []] w) := by
 refine enter Tryz.func10 rfl Tryz.ntmps10 rfl (fun a hk => ?_);have hS := St.refl w0
 (repeat' (first|((first|refine wx1 ?_|refine wx2 ?_ ?_<;>intro hp|refine s_end hk ?_)<;>(clear hk a;intro a hk))|((first|refine wx3 ?_;intro w b|refine wx4 ?_;intro w|refine wx5 ?_;intro w v);clear hk hS a;intro hS a hk)|refine wx0 ?_|fail))
 exact done1 hk (h := ⟨_, rfl, trailH.of (y := (none, 0)) (L := []) ((hS.nilT 97 OpP).sub (.cons atx (.cons atx sbx)))⟩)
section
variable {B : Bs} {w : World} {L : List HP} {bl bd : Nat} {D : DomP} {K : Nat} {ops : List OpP}
set_option maxHeartbeats 4000000 in
theorem note6_any (e : Int) (k x y z : Int) (nm vl : ByteArray) (hl : ops.length ≤ 100000) (hS : St B (trailH bl bd ops :: L) w) :
  Calls Tryz.prog 57 #[pA bl, .int .i64 e, .agg #[.int .i64 k, .int .i64 x, .int .i64 y, .int .i64 z, .string nm, .string vl]] w (Ret fun v w' => v = .int .i64 e ∧ St B (trailH bl bd (noteP e ops (k, x, y, z, nm, vl)) :: L) w') := by
 obtain ⟨ao, c, hS1⟩ := hS.trail (bl := bl) (bd := bd) (ops := ops) .here
 clear hS
 have hS := hS1
 clear hS1
 simp only [trailL, List.cons_append, List.nil_append] at hS
 unfold noteP
 refine enter Tryz.func57 rfl Tryz.ntmps57 rfl (fun a hk => ?_)
 refine wpIn_seq ?_;refine wpIn_region_lit ?_
 refine st_box hk hS ?_;clear hk hS a;intro w b5 hS a hk
 by_cases he : e = 0
 ·subst he
  rw [if_pos rfl]
  (repeat' (first|((first|refine wx1 ?_|refine wx2 ?_ ?_<;>intro hp|refine s_end hk ?_)<;>(clear hk a;intro a hk))|((first|refine wx3 ?_;intro w b|refine wx4 ?_;intro w|refine wx5 ?_;intro w v);clear hk hS a;intro hS a hk)|refine wx0 ?_|fail))
  have hS1 := hS.sub (L' := OwT 97 ops (.slice ao ops.length c) :: pts bl [pA bd, .slice ao ops.length c] 54 :: pts b5 [.int .i64 k, .int .i64 x, .int .i64 y, .int .i64 z, .string nm, .string vl] 97 :: L) (.cons atx (.cons atx (.cons atx sbx)))
  clear hS
  have hS := hS1
  clear hS1
  refine wp_drawnU1 8 mixed (by kernel_rfl) hk hS ?_;clear hk hS a
  (repeat' (first|(show ObxE _ _ _ _ _ _ _ _ _ (_::_) _ _ _;first|refine ox1 ?_|refine ox2 ?_ ?_<;>intro hp)|fail))
  refine' obe_res (fun us a w hk hd hS => ?_) ?_;rotate_left;focus (have hk := Kn.vw hk vwx;exact v_bsT (xs := [((k, x, y, z, nm, vl) : OpP)]) (m := 0) hk (hT := eT rfl) (hE := zT rfl) (hz := oT rfl))
  refine' obe_upd (OwT 97 ops (.slice ao ops.length c)) (fun us a w X hk hd hS hL => ?_) ?_;rotate_left;focus (have hk := Kn.vw hk vwx;exact v_app hk hS (hT := eT rfl) (hTx := eT rfl) (hs := OwT.rd hd.2.1) (hE := zT rfl) (hz := oT rfl) (hzs := rfl) (hby := bT rfl) (hbytes := by simp only [List.length_cons, List.length_nil];omega) (h63 := by simp only [List.length_cons, List.length_nil, maxLen];omega))
  refine obe_nil ⟨rfl, ?_⟩;intro us a w hk hS
  simp only [resE, List.cons_append, List.nil_append, Nat.zero_add, Nat.reduceAdd] at hS
  replace hk := Kn.kp [0, 1, 9, 16] hk
  simp only [HV.of, Nat.zero_add, Nat.reduceAdd] at hk
  generalize us 7 = v16 at hS hk
  obtain ⟨aov16, cv16, hshp, _⟩ := (OwT.rd (hS.rd (A := OwT 97 _ v16) atx)).shape;subst hshp
  (repeat' (first|((first|refine wx1 ?_|refine wx2 ?_ ?_<;>intro hp|refine s_end hk ?_)<;>(clear hk a;intro a hk))|((first|refine wx3 ?_;intro w b|refine wx4 ?_;intro w|refine wx5 ?_;intro w v);clear hk hS a;intro hS a hk)|refine wx0 ?_|fail))
  exact done1 hk (h := ⟨rfl, trailH.of (y := (aov16, cv16)) (hS.sub (.cons atx (.cons atx sbx)))⟩)
 ·rw [if_neg he]
  (repeat' (first|((first|refine wx1 ?_|refine wx2 ?_ ?_<;>intro hp|refine s_end hk ?_)<;>(clear hk a;intro a hk))|((first|refine wx3 ?_;intro w b|refine wx4 ?_;intro w|refine wx5 ?_;intro w v);clear hk hS a;intro hS a hk)|refine wx0 ?_|fail))
  exact done1 hk (h := ⟨rfl, trailH.of (y := (ao, c)) (hS.sub (.cons atx (.cons atx sbx)))⟩)
set_option maxHeartbeats 4000000 in
theorem lelem6_any (tag : ByteArray) (ht : tag.size ≤ 1000000) (hW : WfD D) (hb : Bnd K D) (hK : K ≤ 800) (hl : ops.length ≤ 100000) (hS : St B (domH bd D :: trailH bl bd ops :: L) w) :
  Calls Tryz.prog 34 #[pA bl, .string tag] w (Ret fun v w' => v = .tuple #[.int .i64 (elemP D tag).2.1, .int .i64 (elemP D tag).2.2] ∧ St B (domH bd (elemP D tag).1 :: trailH bl bd (noteP (elemP D tag).2.2 ops (1, (elemP D tag).2.1, 0, 0, tag, ⟨#[]⟩)) :: L) w') := by
 obtain ⟨ao, c, hS1⟩ := hS.trail (bl := bl) (bd := bd) (ops := ops) (.there .here)
 clear hS
 have hS := hS1
 clear hS1
 simp only [trailL, List.cons_append, List.nil_append] at hS
 refine enter Tryz.func34 rfl Tryz.ntmps34 rfl (fun a hk => ?_)
 (repeat' (first|((first|refine wx1 ?_|refine wx2 ?_ ?_<;>intro hp|refine s_end hk ?_)<;>(clear hk a;intro a hk))|((first|refine wx3 ?_;intro w b|refine wx4 ?_;intro w|refine wx5 ?_;intro w v);clear hk hS a;intro hS a hk)|refine wx0 ?_|fail))
 refine sg hk (g_callO hk (hf := by kernel_rfl) (hc := elem5_any tag ht hW hb (by omega) (hS.sub (L' := domH bd D :: pts bl [pA bd, .slice ao ops.length c] 54 :: OwT 97 ops (.slice ao ops.length c) :: L) (.cons atx (.cons atx (.cons atx sbx))))) (h := ?_));clear hk hS a;rintro _ w ⟨rfl, hS⟩ a hk
 (repeat' (first|((first|refine wx1 ?_|refine wx2 ?_ ?_<;>intro hp|refine s_end hk ?_)<;>(clear hk a;intro a hk))|((first|refine wx3 ?_;intro w b|refine wx4 ?_;intro w|refine wx5 ?_;intro w v);clear hk hS a;intro hS a hk)|refine wx0 ?_|fail))
 have hS1 := trailH.of (bl := bl) (bd := bd) (ops := ops) (y := (ao, c)) (hS.sub (L' := trailL bl bd ops (ao, c) ++ (domH bd (elemP D tag).1 :: L)) (.cons atx (.cons atx (.cons atx sbx))))
 clear hS
 refine sg hk (g_callO hk (hf := by kernel_rfl) (hc := note6_any (elemP D tag).2.2 (1) ((elemP D tag).2.1) (0) (0) (tag) (⟨#[]⟩) hl hS1) (h := ?_));clear hk hS1 a;rintro _ w ⟨rfl, hS⟩ a hk
 (repeat' (first|((first|refine wx1 ?_|refine wx2 ?_ ?_<;>intro hp|refine s_end hk ?_)<;>(clear hk a;intro a hk))|((first|refine wx3 ?_;intro w b|refine wx4 ?_;intro w|refine wx5 ?_;intro w v);clear hk hS a;intro hS a hk)|refine wx0 ?_|fail))
 exact done2 hk (h := ⟨rfl, hS.perm (.swap _ _ _)⟩)
set_option maxHeartbeats 4000000 in
theorem ltext6_any (s : ByteArray) (hW : WfD D) (hb : Bnd K D) (hK : K ≤ 800) (hl : ops.length ≤ 100000) (hS : St B (domH bd D :: trailH bl bd ops :: L) w) :
  Calls Tryz.prog 33 #[pA bl, .string s] w (Ret fun v w' => v = .tuple #[.int .i64 (textP D s).2.1, .int .i64 (textP D s).2.2] ∧ St B (domH bd (textP D s).1 :: trailH bl bd (noteP (textP D s).2.2 ops (2, (textP D s).2.1, 0, 0, ⟨#[]⟩, s)) :: L) w') := by
 obtain ⟨ao, c, hS1⟩ := hS.trail (bl := bl) (bd := bd) (ops := ops) (.there .here)
 clear hS
 have hS := hS1
 clear hS1
 simp only [trailL, List.cons_append, List.nil_append] at hS
 refine enter Tryz.func33 rfl Tryz.ntmps33 rfl (fun a hk => ?_)
 (repeat' (first|((first|refine wx1 ?_|refine wx2 ?_ ?_<;>intro hp|refine s_end hk ?_)<;>(clear hk a;intro a hk))|((first|refine wx3 ?_;intro w b|refine wx4 ?_;intro w|refine wx5 ?_;intro w v);clear hk hS a;intro hS a hk)|refine wx0 ?_|fail))
 refine sg hk (g_callO hk (hf := by kernel_rfl) (hc := text5_any s hW hb (by omega) (hS.sub (L' := domH bd D :: pts bl [pA bd, .slice ao ops.length c] 54 :: OwT 97 ops (.slice ao ops.length c) :: L) (.cons atx (.cons atx (.cons atx sbx))))) (h := ?_));clear hk hS a;rintro _ w ⟨rfl, hS⟩ a hk
 (repeat' (first|((first|refine wx1 ?_|refine wx2 ?_ ?_<;>intro hp|refine s_end hk ?_)<;>(clear hk a;intro a hk))|((first|refine wx3 ?_;intro w b|refine wx4 ?_;intro w|refine wx5 ?_;intro w v);clear hk hS a;intro hS a hk)|refine wx0 ?_|fail))
 have hS1 := trailH.of (bl := bl) (bd := bd) (ops := ops) (y := (ao, c)) (hS.sub (L' := trailL bl bd ops (ao, c) ++ (domH bd (textP D s).1 :: L)) (.cons atx (.cons atx (.cons atx sbx))))
 clear hS
 refine sg hk (g_callO hk (hf := by kernel_rfl) (hc := note6_any (textP D s).2.2 (2) ((textP D s).2.1) (0) (0) (⟨#[]⟩) (s) hl hS1) (h := ?_));clear hk hS1 a;rintro _ w ⟨rfl, hS⟩ a hk
 (repeat' (first|((first|refine wx1 ?_|refine wx2 ?_ ?_<;>intro hp|refine s_end hk ?_)<;>(clear hk a;intro a hk))|((first|refine wx3 ?_;intro w b|refine wx4 ?_;intro w|refine wx5 ?_;intro w v);clear hk hS a;intro hS a hk)|refine wx0 ?_|fail))
 exact done2 hk (h := ⟨rfl, hS.perm (.swap _ _ _)⟩)
set_option maxHeartbeats 4000000 in
theorem lins6_any (parent at_ id : Int) (hW : WfD D) (hb : Bnd K D) (hK : K ≤ 800) (hl : ops.length ≤ 100000) (hS : St B (domH bd D :: trailH bl bd ops :: L) w) :
  Calls Tryz.prog 35 #[pA bl, .int .i64 parent, .int .i64 at_, .int .i64 id] w (Ret fun v w' => v = .int .i64 (insP D parent at_ id).2 ∧ St B (domH bd (insP D parent at_ id).1 :: trailH bl bd (noteP (insP D parent at_ id).2 ops (3, parent, at_, id, ⟨#[]⟩, ⟨#[]⟩)) :: L) w') := by
 obtain ⟨ao, c, hS1⟩ := hS.trail (bl := bl) (bd := bd) (ops := ops) (.there .here)
 clear hS
 have hS := hS1
 clear hS1
 simp only [trailL, List.cons_append, List.nil_append] at hS
 refine enter Tryz.func35 rfl Tryz.ntmps35 rfl (fun a hk => ?_)
 (repeat' (first|((first|refine wx1 ?_|refine wx2 ?_ ?_<;>intro hp|refine s_end hk ?_)<;>(clear hk a;intro a hk))|((first|refine wx3 ?_;intro w b|refine wx4 ?_;intro w|refine wx5 ?_;intro w v);clear hk hS a;intro hS a hk)|refine wx0 ?_|fail))
 refine sg hk (g_callO hk (hf := by kernel_rfl) (hc := ins5_any parent at_ id hW hb hK (hS.sub (L' := domH bd D :: pts bl [pA bd, .slice ao ops.length c] 54 :: OwT 97 ops (.slice ao ops.length c) :: L) (.cons atx (.cons atx (.cons atx sbx))))) (h := ?_));clear hk hS a;rintro _ w ⟨rfl, hS⟩ a hk
 (repeat' (first|((first|refine wx1 ?_|refine wx2 ?_ ?_<;>intro hp|refine s_end hk ?_)<;>(clear hk a;intro a hk))|((first|refine wx3 ?_;intro w b|refine wx4 ?_;intro w|refine wx5 ?_;intro w v);clear hk hS a;intro hS a hk)|refine wx0 ?_|fail))
 have hS1 := trailH.of (bl := bl) (bd := bd) (ops := ops) (y := (ao, c)) (hS.sub (L' := trailL bl bd ops (ao, c) ++ (domH bd (insP D parent at_ id).1 :: L)) (.cons atx (.cons atx (.cons atx sbx))))
 clear hS
 refine sg hk (g_callO hk (hf := by kernel_rfl) (hc := note6_any (insP D parent at_ id).2 (3) (parent) (at_) (id) (⟨#[]⟩) (⟨#[]⟩) hl hS1) (h := ?_));clear hk hS1 a;rintro _ w ⟨rfl, hS⟩ a hk
 (repeat' (first|((first|refine wx1 ?_|refine wx2 ?_ ?_<;>intro hp|refine s_end hk ?_)<;>(clear hk a;intro a hk))|((first|refine wx3 ?_;intro w b|refine wx4 ?_;intro w|refine wx5 ?_;intro w v);clear hk hS a;intro hS a hk)|refine wx0 ?_|fail))
 exact done1 hk (h := ⟨rfl, hS.perm (.swap _ _ _)⟩)
end
theorem trailH.get {bl bd : Nat} {ops : List OpP} {w : World} (h : (trailH bl bd ops).rd w) : ∃ a c, (pts bl [pA bd, .slice a ops.length c] 54).rd w ∧ SlT ops (.slice a ops.length c) w := by
 obtain ⟨⟨a, c⟩, -, F, h⟩ := bagH.rd h
 exact ⟨a, c, h.rd .here, OwT.rd (h.rd (.there .here))⟩
theorem cloneO6_any (l : List OpP) (v : Value) (w0 : World) (hv : SlT l v w0) (hl : l.length ≤ 100000) : Calls Tryz.prog 37 #[v] w0 (Ret fun v w => St w0 [OwT 97 l v] w) := by
 obtain ⟨ao, c, rfl, hao, _⟩ := hv.shape
 refine enter Tryz.func37 rfl Tryz.ntmps37 rfl (fun a hk => ?_);have hS := St.refl w0
 (repeat' (first|((first|refine wx1 ?_|refine wx2 ?_ ?_<;>intro hp|refine s_end hk ?_)<;>(clear hk a;intro a hk))|((first|refine wx3 ?_;intro w b|refine wx4 ?_;intro w|refine wx5 ?_;intro w v);clear hk hS a;intro hS a hk)|refine wx0 ?_|fail))
 refine sg hk (g_eqN hk ?_ (hT := eT rfl));clear hk a;intro a hk
 cases ao with
 | none =>
  obtain ⟨h1, _⟩ := hao rfl
  subst h1
  (repeat' (first|((first|refine wx1 ?_|refine wx2 ?_ ?_<;>intro hp|refine s_end hk ?_)<;>(clear hk a;intro a hk))|((first|refine wx3 ?_;intro w b|refine wx4 ?_;intro w|refine wx5 ?_;intro w v);clear hk hS a;intro hS a hk)|refine wx0 ?_|fail))
  exact done1 hk (h := hS.nilT 97 OpP)
 | some ad =>
  (repeat' (first|((first|refine wx1 ?_|refine wx2 ?_ ?_<;>intro hp|refine s_end hk ?_)<;>(clear hk a;intro a hk))|((first|refine wx3 ?_;intro w b|refine wx4 ?_;intro w|refine wx5 ?_;intro w v);clear hk hS a;intro hS a hk)|refine wx0 ?_|fail))
  refine sg hk (g_bs0 OpP hS ?_ (hT := eT rfl) (hE := zT rfl));clear hk hS a;intro w v0 hS a hk
  refine sg hk (g_move hk ?_);clear hk a;intro a hk
  refine sg hk (g_appT (xs := ([] : List OpP)) (ys := l) hk hS ?_ (hT := eT rfl) (hTx := eT rfl) (hE := zT rfl) (hz := oT rfl) (hzs := rfl) (hs := hS.rdT hv) (hby := bT rfl) (hbytes := by simp only [List.length_nil];omega) (h63 := by simp only [maxLen, List.length_nil];omega));clear hk hS a;intro w v1 hS a hk
  rw [List.nil_append] at hS
  (repeat' (first|((first|refine wx1 ?_|refine wx2 ?_ ?_<;>intro hp|refine s_end hk ?_)<;>(clear hk a;intro a hk))|((first|refine wx3 ?_;intro w b|refine wx4 ?_;intro w|refine wx5 ?_;intro w v);clear hk hS a;intro hS a hk)|refine wx0 ?_|fail))
  exact done1 hk (h := hS)
theorem ops6_any {bl bd : Nat} {ops : List OpP} (w0 : World) (hl : ops.length ≤ 100000) (h : (trailH bl bd ops).rd w0) : Calls Tryz.prog 16 #[pA bl] w0 (Ret fun v w => St w0 [OwT 97 ops v] w) := by
 obtain ⟨ao, c, h1, h2⟩ := trailH.get h
 refine enter Tryz.func16 rfl Tryz.ntmps16 rfl (fun a hk => ?_);have hS := St.refl w0
 (repeat' (first|((first|refine wx1 ?_|refine wx2 ?_ ?_<;>intro hp|refine s_end hk ?_)<;>(clear hk a;intro a hk))|((first|refine wx3 ?_;intro w b|refine wx4 ?_;intro w|refine wx5 ?_;intro w v);clear hk hS a;intro hS a hk)|refine wx0 ?_|fail))
 refine sg hk (g_callO hk (hf := by kernel_rfl) (hc := cloneO6_any ops _ _ (hS.rdT h2) hl) (h := ?_));clear hk a;rintro vo w hS1 a hk;replace hS := hS.call hS1;clear hS1
 (repeat' (first|((first|refine wx1 ?_|refine wx2 ?_ ?_<;>intro hp|refine s_end hk ?_)<;>(clear hk a;intro a hk))|((first|refine wx3 ?_;intro w b|refine wx4 ?_;intro w|refine wx5 ?_;intro w v);clear hk hS a;intro hS a hk)|refine wx0 ?_|fail))
 exact done1 hk (h := hS.sb)
def cntO (ops : List OpP) (k : Int) : Nat := (ops.filter (fun o => decide (o.1 = k))).length
theorem count6_any (ops : List OpP) (k : Int) (v : Value) (w0 : World) (hv : SlT ops v w0) (hl : ops.length ≤ 100000) : Calls Tryz.prog 19 #[v, .int .i64 k] w0 (Ret fun v w => v = .int .i64 (cntO ops k) ∧ St w0 [] w) := by
 refine enter Tryz.func19 rfl Tryz.ntmps19 rfl (fun a hk => ?_);have hS := St.refl w0
 (repeat' (first|((first|refine wx1 ?_|refine wx2 ?_ ?_<;>intro hp|refine s_end hk ?_)<;>(clear hk a;intro a hk))|((first|refine wx3 ?_;intro w b|refine wx4 ?_;intro w|refine wx5 ?_;intro w v);clear hk hS a;intro hS a hk)|refine wx0 ?_|fail))
 replace hk := Kn.kp [1, 5, 8, 9, 10] hk
 refine wp_for ops.length (fun i _ => [(5, .int .i64 (cntO (ops.take i) k : Nat)), (10, .int .i64 (i : Int))]) (fun _ _ => []) (fun _ _ => True) () hk skx hS.sb trivial ?_
 clear hk hS a
 rintro i - a w hi hk hS -
 have hcl : cntO (ops.take i) k ≤ i := Nat.le_trans (List.length_filter_le _ _) (by rw [List.length_take];omega)
 by_cases hil : i < ops.length
 ·obtain ⟨⟨o1, o2, o3, o4, o5, o6⟩, hx⟩ : ∃ x, ops[i]? = some x := ⟨_, List.getElem?_eq_getElem hil⟩
  have hv1 := hS.rdT hv
  have hst : cntO (ops.take (i + 1)) k = cntO (ops.take i) k + if o1 = k then 1 else 0 := by
   unfold cntO
   rw [take_snoc hx, List.filter_append, List.length_append]
   by_cases e : o1 = k <;> simp [e]
  by_cases he : o1 = k
  ·rw [if_pos he] at hst
   (repeat' (first|((first|refine wx1 ?_|refine wx2 ?_ ?_<;>intro hp|refine s_end hk ?_)<;>(clear hk a;intro a hk))|((first|refine wx3 ?_;intro w b|refine wx4 ?_;intro w|refine wx5 ?_;intro w v);clear hk hS a;intro hS a hk)|refine wx0 ?_|fail))
   exact ⟨hil, (), by rw [hst];exact hk.sd, hS.sb, trivial⟩
  ·rw [if_neg he, Nat.add_zero] at hst
   (repeat' (first|((first|refine wx1 ?_|refine wx2 ?_ ?_<;>intro hp|refine s_end hk ?_)<;>(clear hk a;intro a hk))|((first|refine wx3 ?_;intro w b|refine wx4 ?_;intro w|refine wx5 ?_;intro w v);clear hk hS a;intro hS a hk)|refine wx0 ?_|fail))
   exact ⟨hil, (), by rw [hst];exact hk.sd, hS.sb, trivial⟩
 ·have hii : i = ops.length := by omega
  subst hii
  rw [List.take_length] at hk
  (repeat' (first|((first|refine wx1 ?_|refine wx2 ?_ ?_<;>intro hp|refine s_end hk ?_)<;>(clear hk a;intro a hk))|((first|refine wx3 ?_;intro w b|refine wx4 ?_;intro w|refine wx5 ?_;intro w v);clear hk hS a;intro hS a hk)|refine wx0 ?_|fail))
  exact done1 hk (h := ⟨rfl, hS.nil⟩)
end Go.Proofs.YtnjmonkehjlaoaaGreatDoor
namespace Go.Proofs.YtnjmonkehjlaoaaGreatDoor
open Go.RowKit
set_option maxRecDepth 100000
attribute [local irreducible] Go.Code.wpIn Go.wpListIn Go.Calls Gives Go.Exit.then Go.Exit.inBlock Done ObxE
theorem getLast_take {β : Type} {S : List β} {k : Nat} (h : k + 1 ≤ S.length) : (S.take (k + 1)).getLast? = some (S[k]'(by omega)) := by
 rw [List.getLast?_eq_getElem?, List.length_take, Nat.min_eq_left h, List.getElem?_take, if_pos (by omega), List.getElem?_eq_getElem (by omega)]
 simp
set_option maxHeartbeats 4000000 in
theorem refOf_any (l : List PrI) (v : Value) (w0 : World) (hv : SlT l v w0) (hl : l.length ≤ 1000) :
  Calls Tryz.prog 47 #[v] w0 (Ret fun v w => St w0 [OwT 135 (snapF nmI l) v] w) := by
 have hsl := snap_len nmI l
 have hmn := fun k hk => minE_next nmI l k hk
 generalize snapF nmI l = S at *
 refine enter Tryz.func47 rfl Tryz.ntmps47 rfl (fun a hk => ?_);have hS := St.refl w0
 (repeat' (first|((first|refine wx1 ?_|refine wx2 ?_ ?_<;>intro hp|refine s_end hk ?_)<;>(clear hk a;intro a hk))|((first|refine wx3 ?_;intro w b|refine wx4 ?_;intro w|refine wx5 ?_;intro w v);clear hk hS a;intro hS a hk)|refine wx0 ?_|fail))
 refine sg hk (g_bs0 PrI hS ?_ (hT := eT rfl) (hE := zT rfl));clear hk hS a;intro w v2 hS a hk
 (repeat' (first|((first|refine wx1 ?_|refine wx2 ?_ ?_<;>intro hp|refine s_end hk ?_)<;>(clear hk a;intro a hk))|((first|refine wx3 ?_;intro w b|refine wx4 ?_;intro w|refine wx5 ?_;intro w v);clear hk hS a;intro hS a hk)|refine wx0 ?_|fail))
 replace hk := Kn.kp [0, 3] hk
 refine wp_for S.length (fun _ v => [(3, v)]) (fun k v => [OwT 135 (S.take k) v]) (fun _ _ => True) v2 hk skx hS trivial ?_
 clear hk hS a
 rintro k vo a w hk1 hk hS -
 have hkl : (S.take k).length = k := by rw [List.length_take];omega
 have hm1 := hmn k hk1
 (repeat' (first|((first|refine wx1 ?_|refine wx2 ?_ ?_<;>intro hp|refine s_end hk ?_)<;>(clear hk a;intro a hk))|((first|refine wx3 ?_;intro w b|refine wx4 ?_;intro w|refine wx5 ?_;intro w v);clear hk hS a;intro hS a hk)|refine wx0 ?_|fail))
 replace hk := Kn.kp [0, 3, 4, 5, 11, 12, 13] hk
 refine wp_for l.length (fun i _ => [(4, .bool (minE nmI (l.take i) ((S.take k).getLast?.map nmI)).isSome), (13, .int .i64 (i : Int))]) (fun i _ => [pts b (Enc.f ((minE nmI (l.take i) ((S.take k).getLast?.map nmI)).getD (⟨#[]⟩, 0))) 135, OwT 135 (S.take k) vo]) (fun _ _ => True) () hk skx hS.sb trivial ?_
 clear hk hS a
 rintro i - a w hi hk hS -
 by_cases hil : i < l.length
 ·obtain ⟨⟨id, X⟩, hx⟩ : ∃ x, l[i]? = some x := ⟨_, List.getElem?_eq_getElem hil⟩
  have hm' : minE nmI (l.take (i + 1)) ((S.take k).getLast?.map nmI) = minStepE nmI ((S.take k).getLast?.map nmI) (minE nmI (l.take i) ((S.take k).getLast?.map nmI)) (id, X) := by rw [take_snoc hx, minE_snoc]
  have hA : (S.take k).getLast?.map nmI = none ∧ k = 0 ∨ ∃ h : k - 1 < S.length, 0 < k ∧ (S.take k).getLast?.map nmI = some S[k - 1].1 := by
   by_cases hk0 : k = 0
   ·subst hk0;exact .inl ⟨rfl, rfl⟩
   ·refine .inr ⟨by omega, by omega, ?_⟩
    obtain ⟨k', rfl⟩ : ∃ k', k = k' + 1 := ⟨k - 1, by omega⟩
    rw [getLast_take hk1]
    rfl
  generalize minE nmI (l.take (i + 1)) ((S.take k).getLast?.map nmI) = m' at hm' ⊢
  generalize minE nmI (l.take i) ((S.take k).getLast?.map nmI) = m at hm' hk hS
  generalize (S.take k).getLast?.map nmI = A at hm' hA
  rcases hA with ⟨rfl, hk0⟩ | ⟨hkS, hkp, rfl⟩
  ·rcases m with _ | ⟨qn, qx⟩
   ·have e : m' = some (id, X) := by rw [hm'];rfl
    subst e
    simp only [Option.isSome_none, Option.getD_none] at hk hS
    (repeat' (first|((first|refine wx1 ?_|refine wx2 ?_ ?_<;>intro hp|refine s_end hk ?_)<;>(clear hk a;intro a hk))|((first|refine wx3 ?_;intro w b|refine wx4 ?_;intro w|refine wx5 ?_;intro w v);clear hk hS a;intro hS a hk)|refine wx0 ?_|fail))
    refine wp_drawn 13 mixed (by kernel_rfl) hk hS ?_;clear hk hS a
    (repeat' (first|(show ObxE _ _ _ _ _ _ _ _ _ (_::_) _ _ _;first|refine ox1 ?_|refine ox2 ?_ ?_<;>intro hp)|fail))
    refine obe_nil ⟨rfl, ?_⟩;intro us a w hk hS
    (repeat' (first|((first|refine wx1 ?_|refine wx2 ?_ ?_<;>intro hp|refine s_end hk ?_)<;>(clear hk a;intro a hk))|((first|refine wx3 ?_;intro w b|refine wx4 ?_;intro w|refine wx5 ?_;intro w v);clear hk hS a;intro hS a hk)|refine wx0 ?_|fail))
    exact ⟨hil, (), hk.sd, hS.sb, trivial⟩
   ·simp only [Option.isSome_some, Option.getD_some] at hk hS
    (repeat' (first|((first|refine wx1 ?_|refine wx2 ?_ ?_<;>intro hp|refine s_end hk ?_)<;>(clear hk a;intro a hk))|((first|refine wx3 ?_;intro w b|refine wx4 ?_;intro w|refine wx5 ?_;intro w v);clear hk hS a;intro hS a hk)|refine wx0 ?_|fail))
    refine wp_drawn 13 mixed (by kernel_rfl) hk hS ?_;clear hk hS a
    (repeat' (first|(show ObxE _ _ _ _ _ _ _ _ _ (_::_) _ _ _;first|refine ox1 ?_|refine ox2 ?_ ?_<;>intro hp)|fail))
    refine obe_nil ⟨rfl, ?_⟩;intro us a w hk hS
    (repeat' (first|((first|refine wx1 ?_|refine wx2 ?_ ?_<;>intro hp|refine s_end hk ?_)<;>(clear hk a;intro a hk))|((first|refine wx3 ?_;intro w b|refine wx4 ?_;intro w|refine wx5 ?_;intro w v);clear hk hS a;intro hS a hk)|refine wx0 ?_|fail))
    ·have h1 : (!Lin.lt qn id) = true := by assumption
     have e : m' = some (id, X) := by rw [hm'];simp at h1;simp [minStepE, aheadB, h1]
     subst e
     exact ⟨hil, (), hk.sd, hS.sb, trivial⟩
    ·have h1 : (!Lin.lt qn id) = false := by assumption
     have e : m' = some (qn, qx) := by rw [hm'];simp at h1;simp [minStepE, aheadB, h1]
     subst e
     exact ⟨hil, (), hk.sd, hS.sb, trivial⟩
  ·have hga : ∀ h, ((S.take k)[(((S.take k).length : Int) - 1).toNat]'h).1 = S[k - 1].1 := by
    intro h
    rw [List.getElem_take]
    congr 2
    omega
   rcases m with _ | ⟨qn, qx⟩
   ·simp only [Option.isSome_none, Option.getD_none] at hk hS
    (repeat' (first|((first|refine wx1 ?_|refine wx2 ?_ ?_<;>intro hp|refine s_end hk ?_)<;>(clear hk a;intro a hk))|((first|refine wx3 ?_;intro w b|refine wx4 ?_;intro w|refine wx5 ?_;intro w v);clear hk hS a;intro hS a hk)|refine wx0 ?_|fail))
    refine wp_drawn 13 mixed (by kernel_rfl) hk hS ?_;clear hk hS a
    (repeat' (first|(show ObxE _ _ _ _ _ _ _ _ _ (_::_) _ _ _;first|refine ox1 ?_|refine ox2 ?_ ?_<;>intro hp)|fail))
    refine obe_nil ⟨rfl, ?_⟩;intro us a w hk hS
    (repeat' (first|((first|refine wx1 ?_|refine wx2 ?_ ?_<;>intro hp|refine s_end hk ?_)<;>(clear hk a;intro a hk))|((first|refine wx3 ?_;intro w b|refine wx4 ?_;intro w|refine wx5 ?_;intro w v);clear hk hS a;intro hS a hk)|refine wx0 ?_|fail))
    ·have h1 : Lin.lt S[k - 1].1 id = true := by rw [← hga (by omega)];assumption
     have e : m' = some (id, X) := by rw [hm'];simp [minStepE, aheadB, h1]
     subst e
     exact ⟨hil, (), hk.sd, hS.sb, trivial⟩
    ·have h1 : Lin.lt S[k - 1].1 id = false := by rw [← hga (by omega)];assumption
     have e : m' = none := by rw [hm'];simp [minStepE, aheadB, h1]
     subst e
     exact ⟨hil, (), hk.sd, hS.sb, trivial⟩
   ·simp only [Option.isSome_some, Option.getD_some] at hk hS
    (repeat' (first|((first|refine wx1 ?_|refine wx2 ?_ ?_<;>intro hp|refine s_end hk ?_)<;>(clear hk a;intro a hk))|((first|refine wx3 ?_;intro w b|refine wx4 ?_;intro w|refine wx5 ?_;intro w v);clear hk hS a;intro hS a hk)|refine wx0 ?_|fail))
    refine wp_drawn 13 mixed (by kernel_rfl) hk hS ?_;clear hk hS a
    (repeat' (first|(show ObxE _ _ _ _ _ _ _ _ _ (_::_) _ _ _;first|refine ox1 ?_|refine ox2 ?_ ?_<;>intro hp)|fail))
    refine obe_nil ⟨rfl, ?_⟩;intro us a w hk hS
    (repeat' (first|((first|refine wx1 ?_|refine wx2 ?_ ?_<;>intro hp|refine s_end hk ?_)<;>(clear hk a;intro a hk))|((first|refine wx3 ?_;intro w b|refine wx4 ?_;intro w|refine wx5 ?_;intro w v);clear hk hS a;intro hS a hk)|refine wx0 ?_|fail))
    ·have h1 : Lin.lt S[k - 1].1 id = true := by rw [← hga (by omega)];assumption
     have h2 : (!Lin.lt qn id) = true := by assumption
     have e : m' = some (id, X) := by rw [hm'];simp at h2;simp [minStepE, aheadB, h1, h2]
     subst e
     exact ⟨hil, (), hk.sd, hS.sb, trivial⟩
    ·have h1 : Lin.lt S[k - 1].1 id = true := by rw [← hga (by omega)];assumption
     have h2 : (!Lin.lt qn id) = false := by assumption
     have e : m' = some (qn, qx) := by rw [hm'];simp at h2;simp [minStepE, aheadB, h1, h2]
     subst e
     exact ⟨hil, (), hk.sd, hS.sb, trivial⟩
    ·have h1 : Lin.lt S[k - 1].1 id = false := by rw [← hga (by omega)];assumption
     have e : m' = some (qn, qx) := by rw [hm'];simp [minStepE, aheadB, h1]
     subst e
     exact ⟨hil, (), hk.sd, hS.sb, trivial⟩
 ·have : i = l.length := by omega
  subst this
  rw [List.take_length, hm1] at hk hS
  by_cases hkS : k < S.length
  ·obtain ⟨⟨i2, X2⟩, hSk⟩ : ∃ e, S[k]? = some e := ⟨_, List.getElem?_eq_getElem hkS⟩
   rw [hSk] at hk hS
   simp only [Option.isSome_some, Option.getD_some] at hk hS
   (repeat' (first|((first|refine wx1 ?_|refine wx2 ?_ ?_<;>intro hp|refine s_end hk ?_)<;>(clear hk a;intro a hk))|((first|refine wx3 ?_;intro w b|refine wx4 ?_;intro w|refine wx5 ?_;intro w v);clear hk hS a;intro hS a hk)|refine wx0 ?_|fail))
   refine sg hk (g_bsT (xs := [((i2, X2) : PrI)]) (m := 0) hk hS ?_ (hT := eT rfl) (hE := zT rfl) (hz := oT rfl));clear hk hS a;intro w ve hS a hk
   (repeat' (first|((first|refine wx1 ?_|refine wx2 ?_ ?_<;>intro hp|refine s_end hk ?_)<;>(clear hk a;intro a hk))|((first|refine wx3 ?_;intro w b|refine wx4 ?_;intro w|refine wx5 ?_;intro w v);clear hk hS a;intro hS a hk)|refine wx0 ?_|fail))
   have hst : S.take (k + 1) = S.take k ++ [(i2, X2)] := take_snoc hSk
   rw [← hst] at hS
   exact ⟨hkS, _, hk.sd, hS.sb, trivial⟩
  ·have : k = S.length := by omega
   subst this
   rw [List.getElem?_eq_none (Nat.le_refl _)] at hk hS
   rw [List.take_length] at hS
   simp only [Option.isSome_none] at hk
   (repeat' (first|((first|refine wx1 ?_|refine wx2 ?_ ?_<;>intro hp|refine s_end hk ?_)<;>(clear hk a;intro a hk))|((first|refine wx3 ?_;intro w b|refine wx4 ?_;intro w|refine wx5 ?_;intro w v);clear hk hS a;intro hS a hk)|refine wx0 ?_|fail))
   exact done1 hk (h := hS.sb)
def few04 (l : List PrI) (n : Nat) : List PrI := (l.take n).map (fun p => (cutF p.1 20, p.2))
end Go.Proofs.YtnjmonkehjlaoaaGreatDoor
namespace Go.Proofs.YtnjmonkehjlaoaaGreatDoor
open Go.RowKit
set_option maxRecDepth 100000
attribute [local irreducible] Go.Code.wpIn Go.wpListIn Go.Calls Gives Go.Exit.then Go.Exit.inBlock Done ObxE
section
variable {α β κ : Type} [DecidableEq κ] [Lin κ] {key : α → κ} {key' : β → κ} {f : α → β}
end
def idxF (l : List PrS) (n : Nat) : List PrI := (List.range n).map (fun i : Nat => ((l[i]?.getD (⟨#[]⟩, ⟨#[]⟩)).1, (i : Int)))
def atI (l : List PrS) (p : PrI) : PrS := l[p.2.toNat]?.getD (⟨#[]⟩, ⟨#[]⟩)
end Go.Proofs.YtnjmonkehjlaoaaGreatDoor
namespace Go.Proofs.YtnjmonkehjlaoaaGreatDoor
open Go.RowKit
set_option maxRecDepth 100000
attribute [local irreducible] Go.Code.wpIn Go.wpListIn Go.Calls Gives Go.Exit.then Go.Exit.inBlock Done ObxE
def few03 (l : List ByteArray) (n : Nat) : List ByteArray := (l.take n).map (fun c => cutF c 20)
end Go.Proofs.YtnjmonkehjlaoaaGreatDoor
namespace Go.Proofs.YtnjmonkehjlaoaaGreatDoor
open Go.RowKit
set_option maxRecDepth 100000
attribute [local irreducible] Go.Code.wpIn Go.wpListIn Go.Calls Gives Go.Exit.then Go.Exit.inBlock Done ObxE
end Go.Proofs.YtnjmonkehjlaoaaGreatDoor
namespace Go.Proofs.YtnjmonkehjlaoaaGreatDoor
open Go.RowKit
set_option maxRecDepth 100000
attribute [local irreducible] Go.Code.wpIn Go.wpListIn Go.Calls Gives Go.Exit.then Go.Exit.inBlock Done ObxE
abbrev FlH := Int × Int × ByteArray × ByteArray × ByteArray × Hd × Hd × Hd × Opt
abbrev flV (h : FlH) : Value := .agg (Enc.f h).toArray
def fewA (l : List (ByteArray × ByteArray)) (n : Nat) : List (ByteArray × ByteArray) := (l.take n).map (fun p => (cutF p.1 20, cutF p.2 40))
theorem cutF_len (s : ByteArray) (n : Nat) : (cutF s n).size ≤ n := by
 unfold cutF
 split
 ·simp;omega
 ·omega
def nodeF (k : Int) (tag key text : ByteArray) (cl : List ByteArray) (al : List (ByteArray × ByteArray)) (sl : List (ByteArray × Int)) (o : Opt) : Tree :=
 .mk k (cutF tag 20) (cutF key 20) (cutF text 70) (few03 cl 4) (fewA al 4) (few04 sl 4) o []
end Go.Proofs.YtnjmonkehjlaoaaGreatDoor
namespace Go.Proofs.YtnjmonkehjlaoaaGreatDoor
open Go.RowKit
set_option maxRecDepth 100000
attribute [local irreducible] Go.Code.wpIn Go.wpListIn Go.Calls Gives Go.Exit.then Go.Exit.inBlock Done ObxE
def in64 (x : Int) : Prop := -9223372036854775808 ≤ x ∧ x ≤ 9223372036854775807
def FlR (w : World) (h : FlH) : Prop := ∃ (dp k : Int) (tag key text : ByteArray) (cl : List ByteArray) (al : List (ByteArray × ByteArray)) (sl : List (ByteArray × Int)) (e lv m d : Int) (p q : Bool) (a1 a2 a3 : Option Addr) (m1 m2 m3 : Nat),
 h = (dp, k, tag, key, text, ⟨a1, cl.length, m1⟩, ⟨a2, al.length, m2⟩, ⟨a3, sl.length, m3⟩, (e, lv, m, d, p, q)) ∧ SlT cl (.slice a1 cl.length m1) w ∧ SlT al (.slice a2 al.length m2) w ∧ SlT sl (.slice a3 sl.length m3) w ∧
 in64 dp ∧ in64 k ∧ in64 e ∧ in64 lv ∧ in64 m ∧ in64 d ∧ ∀ x ∈ sl, in64 x.2
def okN (k : Int) (tag key text : ByteArray) (cl : List ByteArray) (al : List (ByteArray × ByteArray)) (sl : List (ByteArray × Int)) (o : Opt) : Prop :=
 in64 k ∧ tag.size ≤ 20 ∧ key.size ≤ 20 ∧ text.size ≤ 70 ∧ cl.length ≤ 4 ∧ (∀ c ∈ cl, c.size ≤ 20) ∧ al.length ≤ 4 ∧ (∀ x ∈ al, x.1.size ≤ 20 ∧ x.2.size ≤ 40) ∧ sl.length ≤ 4 ∧ (∀ x ∈ sl, x.1.size ≤ 20 ∧ in64 x.2) ∧
 in64 o.1 ∧ in64 o.2.1 ∧ in64 o.2.2.1 ∧ in64 o.2.2.2.1
inductive Small : Tree → Prop where
 | mk {k : Int} {tag key text : ByteArray} {cl : List ByteArray} {al : List (ByteArray × ByteArray)} {sl : List (ByteArray × Int)} {o : Opt} {kids : List Tree} (h : okN k tag key text cl al sl o) (hk : ∀ t ∈ kids, Small t) : Small (.mk k tag key text cl al sl o kids)
mutual
def cnt : Tree → Nat
 | .mk _ _ _ _ _ _ _ _ kids => cntL kids + 1
def cntL : List Tree → Nat
 | [] => 0
 | t :: ts => cnt t + cntL ts
end
theorem cntL_app : ∀ (ts us : List Tree), cntL (ts ++ us) = cntL ts + cntL us
 | [], us => by simp [cntL]
 | t :: ts, us => by simp only [List.cons_append, cntL, cntL_app ts us];omega
theorem cnt_pos (t : Tree) : 1 ≤ cnt t := by cases t; simp only [cnt]; omega
theorem cntL_mem : ∀ {ts : List Tree} {t : Tree}, t ∈ ts → cnt t ≤ cntL ts
 | t :: ts, u, h => by
  rcases List.mem_cons.1 h with rfl | h
  ·simp only [cntL];omega
  ·have := cntL_mem h;simp only [cntL];omega
structure KS where
 at_ : Nat
 ts : List Tree
 H : List NdH
 a : Option Addr
 c : Nat
end Go.Proofs.YtnjmonkehjlaoaaGreatDoor
namespace Go.Proofs.YtnjmonkehjlaoaaGreatDoor
open Go.RowKit
def Tree.kind : Tree → Int
 | .mk k _ _ _ _ _ _ _ _ => k
def Tree.text : Tree → ByteArray
 | .mk _ _ _ x _ _ _ _ _ => x
def Tree.plus : Tree → ByteArray → Tree
 | .mk k tag key text cl al sl o ks, x => .mk k tag key (text ++ x) cl al sl o ks
def Tree.void (t : Tree) : Prop := t.kind = 1 ∧ t.text = ⟨#[]⟩
instance (t : Tree) : Decidable t.void := by unfold Tree.void; exact inferInstance
def mrgS (out : List Tree) (t : Tree) : List Tree :=
 match out.getLast? with
 | some u => if t.kind = 1 ∧ u.kind = 1 then out.dropLast ++ [u.plus t.text] else out ++ [t]
 | none => out ++ [t]
def mrg (l : List Tree) : List Tree := l.foldl mrgS []
noncomputable section
mutual
def nrm : Tree → Tree
 | .mk k tag key text cl al sl o kids => .mk k tag key text (clnC cl) (snapF nmS al) (snapF nmI sl) o (mrg (nrmL kids))
def nrmL : List Tree → List Tree
 | [] => []
 | t :: ts => if t.void then nrmL ts else nrm t :: nrmL ts
end
end
def txtL (l : List Tree) : Nat := l.foldl (fun n t => n + t.text.size) 0
inductive Fit (X : Nat) : Tree → Prop
 | mk {k : Int} {tag key text : ByteArray} {cl : List ByteArray} {at_ : List (ByteArray × ByteArray)} {st : List (ByteArray × Int)} {o : Opt} {kids : List Tree}
  (h1 : cl.length ≤ 100) (h2 : at_.length ≤ 100) (h3 : st.length ≤ 100) (h4 : kids.length ≤ 1000) (h5 : text.size ≤ X) (h6 : ∀ t ∈ kids, Fit X t) : Fit X (.mk k tag key text cl at_ st o kids)
end Go.Proofs.YtnjmonkehjlaoaaGreatDoor
namespace Go.Proofs.YtnjmonkehjlaoaaGreatDoor
open Go.RowKit
def namesL (cl : List ByteArray) (al : List PrS) (sl : List PrI) : List ByteArray := cl ++ al.map (·.1) ++ sl.map (·.1)
def lasts (n : Int) : Bool := decide (0 ≤ n ∧ n ≤ 1000)
def optsB (o : Opt) (k : Int) : Bool :=
 if k = 3 then lasts o.1 && lasts o.2.1 && lasts o.2.2.1 && decide (o.2.2.2.1 = 0)
 else if k = 4 then lasts o.1 && lasts o.2.1 && decide (o.2.2.1 = 0) && !o.2.2.2.2.2 && decide (0 ≤ o.2.2.2.1 ∧ o.2.2.2.1 ≤ 2)
 else decide (o = (0, 0, 0, 0, false, false))
def bareB (tag key : ByteArray) (cl : List ByteArray) (al : List PrS) (sl : List PrI) (o : Opt) (kids : List Tree) : Bool :=
 decide (tag = ⟨#[]⟩ ∧ key = ⟨#[]⟩ ∧ cl.length + al.length + sl.length + kids.length = 0 ∧ o = (0, 0, 0, 0, false, false))
def valB (al : List PrS) (sl : List PrI) : Bool := al.all (fun x => valS x.2) && sl.all (fun x => decide (-2147483648 ≤ x.2 ∧ x.2 ≤ 2147483647))
def Tree.key : Tree → ByteArray
 | .mk _ _ y _ _ _ _ _ _ => y
def kidB (t : Tree) : Bool := decide (t.kind = 2 ∧ t.key ≠ ⟨#[]⟩)
def keptB (k : Int) (kids : List Tree) : Bool := decide (k = 2) || (kids.all kidB && (decide (k = 3) || decide (kids.length ≤ 1)))
def mayB (k : Int) (tag key text : ByteArray) (cl : List ByteArray) (al : List PrS) (sl : List PrI) (o : Opt) (kids : List Tree) : Bool :=
 if k = 1 then bareB tag key cl al sl o kids && txtS text
 else if k = 2 ∨ k = 3 ∨ k = 4 then decide (text = ⟨#[]⟩) && nameS tag && (namesL cl al sl).all nameS && (decide (key = ⟨#[]⟩) || keyS key) && valB al sl && optsB o k && keptB k kids
 else false
def cntK (c : ByteArray) (ks : List ByteArray) : Nat := ks.countP (fun x => decide (x = c))
def twcB (ks : List ByteArray) : Bool := ks.any (fun c => decide (c ≠ ⟨#[]⟩ ∧ 1 < cntK c ks))
mutual
def chkT : Tree → Int → Int → Int → Int × Int
 | .mk k tag key text cl al sl o kids, deep, depth, left =>
  if depth < deep then (7, left - 1)
  else if left - 1 < 0 then (8, left - 1)
  else if mayB k tag key text cl al sl o kids = false then (4, left - 1)
  else if (namesL cl al sl).any rsvS = true then (6, left - 1)
  else if twcB (kids.map Tree.key) = true then (5, left - 1)
  else chkL kids (deep + 1) depth (left - 1)
def chkL : List Tree → Int → Int → Int → Int × Int
 | [], _, _, left => (0, left)
 | t :: ts, deep, depth, left => if (chkT t deep depth left).1 = 0 then chkL ts deep depth (chkT t deep depth left).2 else chkT t deep depth left
end
theorem chkL_app : ∀ (ts us : List Tree) (deep depth left : Int), chkL (ts ++ us) deep depth left = if (chkL ts deep depth left).1 = 0 then chkL us deep depth (chkL ts deep depth left).2 else chkL ts deep depth left
 | [], us, deep, depth, left => by simp [chkL]
 | t :: ts, us, deep, depth, left => by
  rw [List.cons_append, chkL, chkL, chkL_app ts us]
  by_cases h : (chkT t deep depth left).1 = 0
  ·rw [if_pos h, if_pos h]
  ·rw [if_neg h, if_neg h, if_neg h]
theorem chkL_snoc (ts : List Tree) (t : Tree) (deep depth left : Int) (h : (chkL ts deep depth left).1 = 0) : chkL (ts ++ [t]) deep depth left = chkT t deep depth (chkL ts deep depth left).2 := by
 rw [chkL_app, if_pos h, chkL, chkL]
 split
 ·rename_i h2
  exact Prod.ext h2.symm rfl
 ·rfl
inductive Siz (X : Nat) : Tree → Prop
 | mk {k : Int} {tag key text : ByteArray} {cl : List ByteArray} {al : List (ByteArray × ByteArray)} {sl : List (ByteArray × Int)} {o : Opt} {kids : List Tree}
  (h1 : tag.size ≤ X) (h2 : key.size ≤ X) (h3 : text.size ≤ X) (h4 : ∀ c ∈ cl, c.size ≤ X) (h5 : ∀ x ∈ al, x.1.size ≤ X ∧ x.2.size ≤ X) (h6 : ∀ x ∈ sl, x.1.size ≤ X) (h7 : ∀ t ∈ kids, Siz X t) : Siz X (.mk k tag key text cl al sl o kids)
theorem Siz.names {X : Nat} {cl : List ByteArray} {al : List PrS} {sl : List PrI} (h4 : ∀ c ∈ cl, c.size ≤ X) (h5 : ∀ x ∈ al, x.1.size ≤ X ∧ x.2.size ≤ X) (h6 : ∀ x ∈ sl, x.1.size ≤ X) : ∀ c ∈ namesL cl al sl, c.size ≤ X := by
 intro c hc
 unfold namesL at hc
 rcases List.mem_append.1 hc with h | h
 ·rcases List.mem_append.1 h with h | h
  ·exact h4 c h
  ·obtain ⟨x, hx, rfl⟩ := List.mem_map.1 h;exact (h5 x hx).1
 ·obtain ⟨x, hx, rfl⟩ := List.mem_map.1 h;exact h6 x hx
end Go.Proofs.YtnjmonkehjlaoaaGreatDoor
namespace Go.Proofs.YtnjmonkehjlaoaaGreatDoor
inductive GrT : Tree → Prop
 | mk {k : Int} {tag key text : ByteArray} {cl : List ByteArray} {al : List PrS} {sl : List PrI} {o : Opt} {kids : List Tree}
  (h1 : k = 1 → kids = []) (h2 : k ≠ 1 → nameS tag = true) (h3 : ∀ u ∈ kids, GrT u) : GrT (.mk k tag key text cl al sl o kids)
theorem name_size {s : ByteArray} (h : nameS s = true) : s.size ≤ 1000000 := by
 unfold nameS keyS at h
 simp only [Bool.and_eq_true, decide_eq_true_eq] at h
 omega
theorem may_gr {k : Int} {tag key text : ByteArray} {cl : List ByteArray} {al : List PrS} {sl : List PrI} {o : Opt} {kids : List Tree} (h : mayB k tag key text cl al sl o kids = true) : (k = 1 → kids = []) ∧ (k ≠ 1 → nameS tag = true) := by
 unfold mayB at h
 by_cases h1 : k = 1
 ·rw [if_pos h1] at h
  unfold bareB at h
  simp only [Bool.and_eq_true, decide_eq_true_eq] at h
  exact ⟨fun _ => List.length_eq_zero_iff.1 (by omega), fun h => absurd h1 h⟩
 ·rw [if_neg h1] at h
  split at h
  ·simp only [Bool.and_eq_true] at h
   exact ⟨fun h => absurd h h1, fun _ => h.1.1.1.1.1.2⟩
  ·cases h
theorem chkT_gr : ∀ (n : Nat) (t : Tree) (deep depth left : Int), SizeOf.sizeOf t < n → (chkT t deep depth left).1 = 0 → GrT t ∧ (chkT t deep depth left).2 = left - cnt t ∧ 0 ≤ (chkT t deep depth left).2
 | 0, _, _, _, _, h, _ => by omega
 | n + 1, .mk k tag key text cl al sl o kids, deep, depth, left, h, h0 => by
  have hL : ∀ (ts : List Tree) (deep left : Int), (∀ t ∈ ts, SizeOf.sizeOf t < n) → 0 ≤ left → (chkL ts deep depth left).1 = 0 → (∀ t ∈ ts, GrT t) ∧ (chkL ts deep depth left).2 = left - cntL ts ∧ 0 ≤ (chkL ts deep depth left).2 := by
   intro ts
   induction ts with
   | nil => intro deep left _ hl _;exact ⟨(fun t ht => by cases ht), by simp [chkL, cntL], by simpa [chkL] using hl⟩
   | cons t ts ih =>
    intro deep left hs hl h
    rw [chkL] at h ⊢
    by_cases ht : (chkT t deep depth left).1 = 0
    ·rw [if_pos ht] at h ⊢
     obtain ⟨a1, a2, a3⟩ := chkT_gr n t deep depth left (hs t (by simp)) ht
     obtain ⟨b1, b2, b3⟩ := ih deep (chkT t deep depth left).2 (fun t ht => hs t (by simp [ht])) a3 h
     refine ⟨fun u hu => ?_, ?_, b3⟩
     ·rcases List.mem_cons.1 hu with rfl | hu
      ·exact a1
      ·exact b1 u hu
     ·rw [b2, a2];simp only [cntL];omega
    ·rw [if_neg ht] at h;exact absurd h ht
  have hsz : ∀ t ∈ kids, SizeOf.sizeOf t < n := fun t ht => by
   have := kid_lt (k := k) (tag := tag) (key := key) (text := text) (cl := cl) (at_ := al) (st := sl) (o := o) ht
   omega
  rw [chkT] at h0 ⊢
  simp only [cnt]
  split at h0
  ·cases h0
  ·rename_i c1
   split at h0
   ·cases h0
   ·rename_i c2
    split at h0
    ·cases h0
    ·rename_i c3
     split at h0
     ·cases h0
     ·rename_i c4
      split at h0
      ·cases h0
      ·rename_i c5
       rw [if_neg c1, if_neg c2, if_neg c3, if_neg c4, if_neg c5]
       obtain ⟨b1, b2, b3⟩ := hL kids (deep + 1) (left - 1) hsz (by omega) h0
       obtain ⟨m1, m2⟩ := may_gr (by simpa using c3)
       exact ⟨.mk m1 m2 b1, by rw [b2];omega, b3⟩
section
open Classical
noncomputable def doO (D : DomP) (o : OpP) : DomP × Int :=
 if o.1 = 1 then (if D.next ≠ o.2.1 then (D, 1) else ((elemP D o.2.2.2.2.1).1, (elemP D o.2.2.2.2.1).2.2))
 else if o.1 = 2 then (if D.next ≠ o.2.1 then (D, 1) else ((textP D o.2.2.2.2.2).1, (textP D o.2.2.2.2.2).2.2))
 else insP D o.2.1 o.2.2.1 o.2.2.2.1
noncomputable def stepO (D : DomP) (o : OpP) : Option DomP := if (doO D o).2 = 0 then some (doO D o).1 else none
noncomputable def runO (D : DomP) (l : List OpP) : Option DomP := l.foldl (fun a o => a.bind (stepO · o)) (some D)
end
theorem runO_snoc (D : DomP) (l : List OpP) (o : OpP) : runO D (l ++ [o]) = (runO D l).bind (stepO · o) := by unfold runO; rw [List.foldl_append]; rfl
theorem runO_none (a : List OpP) : a.foldl (fun a o => a.bind (stepO · o)) (none : Option DomP) = none := by
 induction a with
 | nil => rfl
 | cons o a ih => exact ih
theorem runO_take {D D' : DomP} {l : List OpP} (h : runO D l = some D') (i : Nat) : ∃ D1, runO D (l.take i) = some D1 := by
 cases h1 : runO D (l.take i) with
 | some D1 => exact ⟨D1, rfl⟩
 | none =>
  have e : l = l.take i ++ l.drop i := (List.take_append_drop i l).symm
  rw [e] at h
  unfold runO at h h1
  rw [List.foldl_append, h1, runO_none] at h
  cases h
theorem runO_step {D D' : DomP} {l : List OpP} (h : runO D l = some D') {i : Nat} {o : OpP} (ho : l[i]? = some o) {D1 : DomP} (h1 : runO D (l.take i) = some D1) : (doO D1 o).2 = 0 ∧ runO D (l.take (i + 1)) = some (doO D1 o).1 := by
 obtain ⟨D2, h2⟩ := runO_take h (i + 1)
 rw [take_snoc ho, runO_snoc, h1, Option.bind_some] at h2
 unfold stepO at h2
 split at h2
 ·rename_i e
  refine ⟨e, ?_⟩
  rw [take_snoc ho, runO_snoc, h1, Option.bind_some]
  unfold stepO
  rw [if_pos e]
 ·cases h2
theorem runO_more {D D1 D2 : DomP} {l : List OpP} {o : OpP} (h : runO D l = some D1) (h1 : doO D1 o = (D2, 0)) : runO D (l ++ [o]) = some D2 := by
 rw [runO_snoc, h, Option.bind_some]
 unfold stepO
 rw [h1, if_pos rfl]
theorem doO_ok {D : DomP} {K : Nat} (hW : WfD D) (hb : Bnd K D) (o : OpP) : WfD (doO D o).1 ∧ Bnd (K + 1) (doO D o).1 := by
 unfold doO
 split
 ·split
  ·exact ⟨hW, hb.up (by omega)⟩
  ·exact ⟨elemP_wf hW _, elemP_bnd hb _⟩
 ·split
  ·split
   ·exact ⟨hW, hb.up (by omega)⟩
   ·exact ⟨textP_wf hW _, textP_bnd hb _⟩
  ·exact ⟨insP_wf hW _ _ _, insP_bnd hb _ _ _⟩
def OpsK (l : List OpP) : Prop := ∀ o ∈ l, (o.1 = 1 ∧ o.2.2.2.2.1.size ≤ 1000000) ∨ o.1 = 2 ∨ o.1 = 3
theorem OpsK.snoc {l : List OpP} (h : OpsK l) {o : OpP} (ho : (o.1 = 1 ∧ o.2.2.2.2.1.size ≤ 1000000) ∨ o.1 = 2 ∨ o.1 = 3) : OpsK (l ++ [o]) := fun x hx => by
 rcases List.mem_append.1 hx with hx | hx
 ·exact h x hx
 ·rw [List.mem_singleton] at hx;subst hx;exact ho
theorem cntO_snoc (l : List OpP) (o : OpP) (k : Int) : cntO (l ++ [o]) k = cntO l k + if o.1 = k then 1 else 0 := by
 unfold cntO
 rw [List.filter_append, List.length_append]
 by_cases e : o.1 = k <;> simp [e]
section
variable {D : DomP} {K : Nat}
theorem add_new (hW : WfD D) (hl : (D.l.length : Int) ≤ D.most) (kind : Int) (tag text : ByteArray) :
  (addP D kind tag text).2 = (D.next, 0) ∧ (addP D kind tag text).1.most = D.most ∧ (addP D kind tag text).1.next = D.next + 1 ∧ (addP D kind tag text).1.l.length = D.l.length + 1 ∧
  ∀ i, (addP D kind tag text).1.f i = if i = D.next then some ⟨D.next, kind, tag, text, [], [], [], -1, []⟩ else D.f i := by
 have e : addP D kind tag text = ({ D with next := D.next + 1, l := D.l ++ [⟨D.next, kind, tag, text, [], [], [], -1, []⟩] }, D.next, 0) := by
  unfold addP
  rw [if_neg (by omega)]
 rw [e]
 refine ⟨rfl, rfl, rfl, by simp, fun i => ?_⟩
 show fnP (D.l ++ [_]) i = _
 rw [fnd_app]
 by_cases hi : i = D.next
 ·subst hi
  rw [show fnP D.l D.next = none from hW.wf.big (Int.le_refl _), if_pos rfl]
  simp
 ·rw [if_neg hi]
  cases hf : fnP D.l i with
  | some x => exact hf.symm
  | none => simp only;rw [if_neg (fun h => hi h.symm)];exact hf.symm
theorem win_alone {f : Nds} {b : Int} (h : ∀ i n, f i = some n → n.par ≠ b) : ∀ {a : Int}, Win f b a → a = b := by
 intro a hw
 induction hw with
 | refl _ => rfl
 | step h1 _ ih => exact absurd ih (h _ _ h1)
theorem ins_end {α : Type} (l : List α) (e : α) : l.take l.length ++ e :: l.drop l.length = l ++ [e] := by simp
structure GrO (D0 D : DomP) (ops : List OpP) (parent : Int) (pn : NodeP) (x : Int) (c K : Nat) (D' : DomP) (ops' : List OpP) : Prop where
 wf : WfD D'
 bnd : Bnd (K + 2 * c) D'
 most : D'.most = 300
 len : D'.l.length = D.l.length + c
 par : D'.f parent = some { pn with kids := pn.kids ++ [x] }
 old : ∀ i, i < D.next → i ≠ parent → D'.f i = D.f i
 nx : D.next < D'.next
 run : runO D0 ops' = some D'
 ok : OpsK ops'
 cnt : cntO ops' 3 = cntO ops 3 + c
 ol : ops'.length ≤ ops.length + 2 * c
theorem gr_one {D0 : DomP} {ops : List OpP} {parent : Int} {pn : NodeP} (hW : WfD D) (hb : Bnd K D) (hm : D.most = 300) (hl : D.l.length ≤ 300) (hp : D.f parent = some pn) (hpk : pn.kind = 2) (hrun : runO D0 ops = some D) (hok : OpsK ops)
  {kind : Int} {tag text : ByteArray} {o1 : OpP} (hkd : kind = 1 ∨ kind = 2) (ho1 : (o1.1 = 1 ∧ o1.2.2.2.2.1.size ≤ 1000000) ∨ o1.1 = 2) (hdo : doO D o1 = ((addP D kind tag text).1, 0)) :
  insP (addP D kind tag text).1 parent pn.kids.length D.next = ((insP (addP D kind tag text).1 parent pn.kids.length D.next).1, 0) ∧
  GrO D0 D ops parent pn D.next 1 K (insP (addP D kind tag text).1 parent pn.kids.length D.next).1 (ops ++ [o1] ++ [((3, parent, (pn.kids.length : Int), D.next, ⟨#[]⟩, ⟨#[]⟩) : OpP)]) ∧
  (insP (addP D kind tag text).1 parent pn.kids.length D.next).1.f D.next = some ⟨D.next, kind, tag, text, [], [], [], parent, []⟩ := by
 obtain ⟨a1, a2, a3, a4, a5⟩ := add_new hW (by omega) kind tag text
 have hW1 := addP_wf hW hkd tag text
 have hb1 := addP_bnd hb kind tag text
 have hpi := hW.wf.idn parent pn hp
 have hn1 : 1 ≤ D.next := hW.wf.nx
 generalize hD1 : (addP D kind tag text).1 = D1 at *
 have hW2 := insP_wf hW1 parent pn.kids.length D.next
 have hb2 := insP_bnd hb1 parent pn.kids.length D.next
 have hp1 : D1.f parent = some pn := by rw [a5, if_neg (by omega)];exact hp
 have hn : D1.f D.next = some ⟨D.next, kind, tag, text, [], [], [], -1, []⟩ := by rw [a5, if_pos rfl]
 have hnw : ¬ Win D1.f D.next parent := fun hw => by
  have := win_alone (fun i n hi => ?_) hw
  ·omega
  ·rw [a5] at hi
   split at hi
   ·cases hi;simp only;omega
   ·rcases hW.wf.up i n hi with h1 | ⟨q, h1, -⟩
    ·omega
    ·have := (hW.wf.idn _ _ h1).2.2;omega
 have e : insP D1 parent pn.kids.length D.next = ({ D1 with l := putP (putP D1.l { pn with kids := insF pn.kids (pn.kids.length : Int).toNat D.next }) ⟨D.next, kind, tag, text, [], [], [], parent, []⟩ }, 0) := by
  unfold insP
  rw [hp1, hn]
  simp only
  rw [if_neg (by rw [hpk];decide), if_neg]
  rintro (k | k | k | k | k)
  ·omega
  ·exact k rfl
  ·exact hnw k
  ·omega
  ·omega
 have hins : insF pn.kids (pn.kids.length : Int).toNat D.next = pn.kids ++ [D.next] := by
  rw [Int.toNat_natCast];unfold insF;exact ins_end _ _
 rw [hins] at e
 rw [e] at hW2 hb2 ⊢
 have f1 : ∀ i, fnP (putP D1.l { pn with kids := pn.kids ++ [D.next] }) i = if i = parent then some { pn with kids := pn.kids ++ [D.next] } else D1.f i := fun i => by
  rw [fnd_put_some (n := { pn with kids := pn.kids ++ [D.next] }) (m := pn) (by simp only [hpi.1];exact hp1)]
  simp only [hpi.1]
 have f2 : ∀ i, fnP (putP (putP D1.l { pn with kids := pn.kids ++ [D.next] }) ⟨D.next, kind, tag, text, [], [], [], parent, []⟩) i = if i = D.next then some ⟨D.next, kind, tag, text, [], [], [], parent, []⟩ else if i = parent then some { pn with kids := pn.kids ++ [D.next] } else D1.f i := fun i => by
  rw [fnd_put_some (n := ⟨D.next, kind, tag, text, [], [], [], parent, []⟩) (m := ⟨D.next, kind, tag, text, [], [], [], -1, []⟩) (by rw [f1];simp only;rw [if_neg (by omega)];exact hn), f1]
 refine ⟨rfl, ⟨hW2, hb2.up (by omega), a2.trans hm, ?_, ?_, fun i i1 i2 => ?_, by show D.next < D1.next;omega, ?_, ?_, ?_, ?_⟩, ?_⟩
 ·show (putP (putP _ _) _).length = _
  rw [put_len0, put_len0];exact a4
 ·show fnP _ parent = _
  rw [f2, if_neg (by omega), if_pos rfl]
 ·show fnP _ i = _
  rw [f2, if_neg (by omega), if_neg i2, a5, if_neg (by omega)]
 ·refine runO_more (runO_more hrun hdo) ?_
  unfold doO
  simp only
  rw [if_neg (by decide), if_neg (by decide)]
  exact e
 ·exact (hok.snoc (ho1.elim .inl (fun h => .inr (.inl h)))).snoc (.inr (.inr rfl))
 ·rw [cntO_snoc, cntO_snoc]
  simp only
  rw [if_pos trivial, if_neg]
  rcases ho1 with h | h <;> omega
 ·simp only [List.length_append, List.length_cons, List.length_nil];omega
 ·show fnP _ D.next = _
  rw [f2, if_pos rfl]
end
theorem GrO.kid {D0 D D1 D2 : DomP} {ops ops1 ops2 : List OpP} {parent id y : Int} {pn nd : NodeP} {c1 c2 K : Nat} (h : GrO D0 D ops parent pn id c1 K D1 ops1) (h2 : GrO D0 D1 ops1 id nd y c2 (K + 2 * c1) D2 ops2)
  (hid : D.next ≤ id) (hpp : parent < D.next) : GrO D0 D ops parent pn id (c1 + c2) K D2 ops2 := by
 have hnx := h.nx
 refine ⟨h2.wf, h2.bnd.up (by omega), h2.most, by rw [h2.len, h.len];omega, ?_, fun i i1 i2 => ?_, by have := h2.nx;omega, h2.run, h2.ok, by rw [h2.cnt, h.cnt];omega, by have := h.ol;have := h2.ol;omega⟩
 ·rw [h2.old parent (by omega) (by omega)];exact h.par
 ·rw [h2.old i (by omega) (by omega)];exact h.old i i1 i2
end Go.Proofs.YtnjmonkehjlaoaaGreatDoor
namespace Go.Proofs.YtnjmonkehjlaoaaGreatDoor
inductive FitsW : Tree → Prop
 | mk {k : Int} {tag key text : ByteArray} {cl : List ByteArray} {at_ : List (ByteArray × ByteArray)} {st : List (ByteArray × Int)} {o : Opt} {kids : List Tree}
  (h1 : cl.length ≤ 1000) (h2 : at_.length ≤ 1000) (h3 : st.length ≤ 1000) (h4 : kids.length ≤ 1000) (h5 : ∀ t ∈ kids, FitsW t) : FitsW (.mk k tag key text cl at_ st o kids)
end Go.Proofs.YtnjmonkehjlaoaaGreatDoor
namespace Go.Proofs.YtnjmonkehjlaoaaGreatDoor
open Go.RowKit
set_option maxRecDepth 100000
attribute [local irreducible] Go.Code.wpIn Go.wpListIn Go.Calls Gives Go.Exit.then Go.Exit.inBlock Done ObxE
theorem noteP_k {e : Int} (ops : List OpP) (o : OpP) (h : e = 0) : noteP e ops o = ops ++ [o] := if_pos h
set_option maxHeartbeats 16000000 in
theorem grow_any {bl bd : Nat} {D0 : DomP} : ∀ (n : Nat) (t : Tree) (h : NdH) (D : DomP) (ops : List OpP) (K : Nat) (parent : Int) (pn : NodeP) (B : Bs) (L : List HP) (w : World), SizeOf.sizeOf t < n → GrT t → FitsW t → TrR B.g t h →
  WfD D → Bnd K D → K + 2 * cnt t ≤ 700 → D.most = 300 → D.l.length + cnt t ≤ 301 → D.f parent = some pn → pn.kind = 2 → runO D0 ops = some D → OpsK ops → ops.length + 2 * cnt t ≤ 2000 → St B (domH bd D :: trailH bl bd ops :: L) w →
  Calls Tryz.prog 12 #[pA bl, ndV h, .int .i64 parent, .int .i64 pn.kids.length] w (Ret fun v w' => v = .int .i64 (cnt t) ∧ ∃ D' ops', GrO D0 D ops parent pn D.next (cnt t) K D' ops' ∧ St B (domH bd D' :: trailH bl bd ops' :: L) w')
 | 0, _, _, _, _, _, _, _, _, _, _, hn, _, _, _, _, _, _, _, _, _, _, _, _, _, _ => by omega
 | n + 1, t, h, D, ops, K, parent, pn, B, L, w, hn, hg, hf, hr, hW, hb, hK, hm, hl, hp, hpk, hrun, hok, hol, hS => by
  have ih := grow_any (bl := bl) (bd := bd) (D0 := D0) n
  obtain ⟨k, tag, key, text, cl, al, sl, e, lv, m, d, p, q, kids, a1, m1, a2, m2, a3, m3, a4, m4, H, rfl, rfl, c1, c2, c3, c4, hF⟩ := hr.split
  obtain ⟨g1, g2, g3⟩ := hg
  obtain ⟨l1, l2, l3, l4, l5⟩ := hf
  have hHk : H.length = kids.length := hF.1
  have hcn : cnt (.mk k tag key text cl al sl (e, lv, m, d, p, q) kids) = cntL kids + 1 := by simp only [cnt]
  rw [hcn] at hK hl hol ⊢
  have hpn : parent < D.next := (hW.wf.idn parent pn hp).2.2
  have hpl : pn.kids.length ≤ K := (hb.get hp).kids
  show Calls Tryz.prog 12 #[pA bl, .agg #[.int .i64 k, .string tag, .string key, .string text, .slice a1 cl.length m1, .slice a2 al.length m2, .slice a3 sl.length m3, .int .i64 e, .int .i64 lv, .int .i64 m, .int .i64 d, .bool p, .bool q, .slice a4 H.length m4], .int .i64 parent, .int .i64 pn.kids.length] w _
  revert hS;revert w
  refine (fun (tail : ∀ (b5 : Nat) (kind : Int) (D1 : DomP) (ops1 : List OpP) (a : Act) (w : World), (kids ≠ [] → kind = 2) → GrO D0 D ops parent pn D.next 1 K D1 ops1 → D1.f D.next = some ⟨D.next, kind, if kind = 2 then tag else ⟨#[]⟩, if kind = 2 then ⟨#[]⟩ else text, [], [], [], parent, []⟩ →
    Kn [] 53 a [(0, pA bl), (9, .int .i64 D.next), (34, .int .i64 0), (5, pA b5)] → St B (domH bd D1 :: trailH bl bd ops1 :: pts b5 [.int .i64 k, .string tag, .string key, .string text, .slice a1 cl.length m1, .slice a2 al.length m2, .slice a3 sl.length m3, .int .i64 e, .int .i64 lv, .int .i64 m, .int .i64 d, .bool p, .bool q, .slice a4 H.length m4] 31 :: L) w →
    wpListIn (FR none) 0 Tryz.prog ?ops ?Q ?rest a w) => ?first) ?second
  case first =>
   intro w hS
   refine enter Tryz.func12 rfl Tryz.ntmps12 rfl (fun a hk => ?_)
   refine wpIn_seq ?_;refine wpIn_region_lit ?_
   refine st_box hk hS ?_;clear hk hS a;intro w b5 hS a hk
   by_cases hk1 : k = 1
   ·have hkn := g1 hk1
    (repeat' (first|((first|refine wx1 ?_|refine wx2 ?_ ?_<;>intro hp|refine s_end hk ?_)<;>(clear hk a;intro a hk))|((first|refine wx3 ?_;intro w b|refine wx4 ?_;intro w|refine wx5 ?_;intro w v);clear hk hS a;intro hS a hk)|refine wx0 ?_|fail))
    refine sg hk (g_callO hk (hf := by kernel_rfl) (hc := ltext6_any text hW hb (by omega) (by omega) (hS.sub (L' := domH bd D :: trailH bl bd ops :: pts b5 [.int .i64 k, .string tag, .string key, .string text, .slice a1 cl.length m1, .slice a2 al.length m2, .slice a3 sl.length m3, .int .i64 e, .int .i64 lv, .int .i64 m, .int .i64 d, .bool p, .bool q, .slice a4 H.length m4] 31 :: L) (.cons atx (.cons atx (.cons atx sbx))))) (h := ?_));clear hk hS a;rintro _ w ⟨rfl, hS⟩ a hk
    obtain ⟨q1, q2, q3⟩ := gr_one (D0 := D0) (ops := ops) hW hb hm (by omega) hp hpk hrun hok (kind := 1) (tag := ⟨#[]⟩) (text := text) (o1 := (2, D.next, 0, 0, ⟨#[]⟩, text)) (.inl rfl) (.inr rfl) (by unfold doO;rw [if_neg (show ¬ ((2 : Int) = 1) by decide), if_pos rfl, if_neg (by simp)];unfold textP;exact Prod.ext rfl (by rw [(add_new hW (by omega) 1 _ _).1]))
    have a1' : (textP D text).2 = (D.next, 0) := (add_new hW (by omega) 1 _ _).1
    rw [a1'] at hk hS
    have hW1 := textP_wf hW text
    have hb1 := textP_bnd hb text
    rw [noteP_k _ _ rfl] at hS
    (repeat' (first|((first|refine wx1 ?_|refine wx2 ?_ ?_<;>intro hp|refine s_end hk ?_)<;>(clear hk a;intro a hk))|((first|refine wx3 ?_;intro w b|refine wx4 ?_;intro w|refine wx5 ?_;intro w v);clear hk hS a;intro hS a hk)|refine wx0 ?_|fail))
    refine sg hk (g_callO hk (hf := by kernel_rfl) (hc := lins6_any parent pn.kids.length D.next hW1 hb1 (by omega) (by rw [List.length_append, List.length_singleton];omega) hS) (h := ?_));clear hk hS a;rintro _ w ⟨rfl, hS⟩ a hk
    rw [show (insP (textP D text).1 parent pn.kids.length D.next).2 = 0 from congrArg Prod.snd q1] at hk hS
    rw [noteP_k _ _ rfl] at hS
    exact tail _ 1 _ _ _ _ (fun h => absurd hkn h) q2 q3 (hk.sub skx) hS
   ·have htg := g2 hk1
    (repeat' (first|((first|refine wx1 ?_|refine wx2 ?_ ?_<;>intro hp|refine s_end hk ?_)<;>(clear hk a;intro a hk))|((first|refine wx3 ?_;intro w b|refine wx4 ?_;intro w|refine wx5 ?_;intro w v);clear hk hS a;intro hS a hk)|refine wx0 ?_|fail))
    refine sg hk (g_callO hk (hf := by kernel_rfl) (hc := lelem6_any tag (name_size htg) hW hb (by omega) (by omega) (hS.sub (L' := domH bd D :: trailH bl bd ops :: pts b5 [.int .i64 k, .string tag, .string key, .string text, .slice a1 cl.length m1, .slice a2 al.length m2, .slice a3 sl.length m3, .int .i64 e, .int .i64 lv, .int .i64 m, .int .i64 d, .bool p, .bool q, .slice a4 H.length m4] 31 :: L) (.cons atx (.cons atx (.cons atx sbx))))) (h := ?_));clear hk hS a;rintro _ w ⟨rfl, hS⟩ a hk
    have hel : elemP D tag = addP D 2 tag ⟨#[]⟩ := by unfold elemP;rw [if_pos htg]
    obtain ⟨q1, q2, q3⟩ := gr_one (D0 := D0) (ops := ops) hW hb hm (by omega) hp hpk hrun hok (kind := 2) (tag := tag) (text := ⟨#[]⟩) (o1 := (1, D.next, 0, 0, tag, ⟨#[]⟩)) (.inr rfl) (.inl ⟨rfl, name_size htg⟩) (by unfold doO;rw [if_pos rfl, if_neg (by simp)];exact Prod.ext (by simp only [hel]) (by simp only [hel];rw [(add_new hW (by omega) 2 _ _).1]))
    have a1' : (elemP D tag).2 = (D.next, 0) := by rw [hel];exact (add_new hW (by omega) 2 _ _).1
    rw [a1'] at hk hS
    have hW1 := elemP_wf hW tag
    have hb1 := elemP_bnd hb tag
    rw [noteP_k _ _ rfl] at hS
    (repeat' (first|((first|refine wx1 ?_|refine wx2 ?_ ?_<;>intro hp|refine s_end hk ?_)<;>(clear hk a;intro a hk))|((first|refine wx3 ?_;intro w b|refine wx4 ?_;intro w|refine wx5 ?_;intro w v);clear hk hS a;intro hS a hk)|refine wx0 ?_|fail))
    refine sg hk (g_callO hk (hf := by kernel_rfl) (hc := lins6_any parent pn.kids.length D.next hW1 hb1 (by omega) (by rw [List.length_append, List.length_singleton];omega) hS) (h := ?_));clear hk hS a;rintro _ w ⟨rfl, hS⟩ a hk
    rw [hel] at hk hS
    rw [show (insP (addP D 2 tag ⟨#[]⟩).1 parent pn.kids.length D.next).2 = 0 from congrArg Prod.snd q1] at hk hS
    rw [noteP_k _ _ rfl] at hS
    exact tail _ 2 _ _ _ _ (fun _ => rfl) q2 q3 (hk.sub skx) hS
  case second =>
   intro b5 kind D1 ops1 a w hkd hG hid hk hS
   have hv4 := hS.rdT c4
   (repeat' (first|((first|refine wx1 ?_|refine wx2 ?_ ?_<;>intro hp|refine s_end hk ?_)<;>(clear hk a;intro a hk))|((first|refine wx3 ?_;intro w b|refine wx4 ?_;intro w|refine wx5 ?_;intro w v);clear hk hS a;intro hS a hk)|refine wx0 ?_|fail))
   replace hk := Kn.kp [0, 9, 10, 37, 38, 39] hk
   refine wp_for H.length (fun i _ => [(10, .int .i64 ((cntL (kids.take i) + 1 : Nat) : Int)), (39, .int .i64 (i : Int))]) (fun i (y : DomP × List OpP) => domH bd y.1 :: trailH bl bd y.2 :: L) (fun i y => GrO D0 D ops parent pn D.next (1 + cntL (kids.take i)) K y.1 y.2 ∧ ∃ nd, y.1.f D.next = some nd ∧ nd.kind = kind ∧ nd.kids.length = i) (D1, ops1) hk skx (hS.sub (.cons atx (.cons atx sbx))) ⟨hG, _, hid, rfl, rfl⟩ ?_
   clear hk hS a hv4 hG hid
   rintro i ⟨D2, ops2⟩ a w hi hk hS ⟨hG, nd, hnd, hndk, hndl⟩
   simp only at hS hG hnd
   have hv4 := hS.rdT c4
   by_cases hil : i < H.length
   ·obtain ⟨tk, htk⟩ : ∃ t, kids[i]? = some t := ⟨_, List.getElem?_eq_getElem (by omega)⟩
    obtain ⟨hd0, hx⟩ : ∃ x, H[i]? = some x := ⟨_, List.getElem?_eq_getElem hil⟩
    have hTr := hF.2 i tk hd0 htk hx
    have hmk := List.mem_of_getElem? htk
    have hlt : SizeOf.sizeOf tk < n := by have := kid_lt (k := k) (tag := tag) (key := key) (text := text) (cl := cl) (at_ := al) (st := sl) (o := (e, lv, m, d, p, q)) hmk;omega
    have hct : cntL (kids.take i) + cnt tk ≤ cntL kids := by
     have h1 := cntL_app (kids.take (i + 1)) (kids.drop (i + 1))
     rw [List.take_append_drop, take_snoc htk, cntL_app] at h1
     simp only [cntL] at h1
     omega
    have hst : cntL (kids.take (i + 1)) = cntL (kids.take i) + cnt tk := by rw [take_snoc htk, cntL_app];simp only [cntL];omega
    have hk2 : kind = 2 := hkd (fun h => by rw [h] at hmk;cases hmk)
    have hGl := hG.len
    have hGo := hG.ol
    obtain ⟨k0, tag0, key0, text0, ⟨x1, x2, x3⟩, ⟨y1, y2, y3⟩, ⟨zz1, zz2, zz3⟩, ⟨e0, lv0, m0, d0, p0, q0⟩, ⟨u1, u2, u3⟩⟩ := hd0
    generalize cntL (kids.take i) = cc at *
    (repeat' (first|((first|refine wx1 ?_|refine wx2 ?_ ?_<;>intro hp|refine s_end hk ?_)<;>(clear hk a;intro a hk))|((first|refine wx3 ?_;intro w b|refine wx4 ?_;intro w|refine wx5 ?_;intro w v);clear hk hS a;intro hS a hk)|refine wx0 ?_|fail))
    rw [← hndl] at hk
    refine sg hk (g_callO hk (hf := by kernel_rfl) (hc := ih tk (k0, tag0, key0, text0, ⟨x1, x2, x3⟩, ⟨y1, y2, y3⟩, ⟨zz1, zz2, zz3⟩, (e0, lv0, m0, d0, p0, q0), ⟨u1, u2, u3⟩) D2 ops2 (K + 2 * (1 + cc)) D.next nd B L _ hlt (g3 tk hmk) (l5 tk hmk) hTr hG.wf hG.bnd (by omega) hG.most (by omega) hnd (hndk.trans hk2) hG.run hG.ok (by omega) (hS.sub (.cons atx (.cons atx sbx)))) (h := ?_));clear hk hS a;rintro _ w ⟨rfl, D3, ops3, hG3, hS⟩ a hk
    rw [hndl] at hk
    (repeat' (first|((first|refine wx1 ?_|refine wx2 ?_ ?_<;>intro hp|refine s_end hk ?_)<;>(clear hk a;intro a hk))|((first|refine wx3 ?_;intro w b|refine wx4 ?_;intro w|refine wx5 ?_;intro w v);clear hk hS a;intro hS a hk)|refine wx0 ?_|fail))
    refine ⟨hil, (D3, ops3), ?_, hS, ?_, _, hG3.par, hndk, by simp only [List.length_append, List.length_singleton];omega⟩
    ·rw [hst, show cc + cnt tk + 1 = cc + 1 + cnt tk by omega]
     exact hk.sd
    ·rw [hst, ← Nat.add_assoc]
     exact hG.kid hG3 (Int.le_refl _) hpn
   ·have hii : i = kids.length := by omega
    subst hii
    rw [List.take_length] at hG hk
    rw [Nat.add_comm] at hG
    (repeat' (first|((first|refine wx1 ?_|refine wx2 ?_ ?_<;>intro hp|refine s_end hk ?_)<;>(clear hk a;intro a hk))|((first|refine wx3 ?_;intro w b|refine wx4 ?_;intro w|refine wx5 ?_;intro w v);clear hk hS a;intro hS a hk)|refine wx0 ?_|fail))
    exact done1 hk (h := ⟨rfl, _, _, hG, hS⟩)
end Go.Proofs.YtnjmonkehjlaoaaGreatDoor
