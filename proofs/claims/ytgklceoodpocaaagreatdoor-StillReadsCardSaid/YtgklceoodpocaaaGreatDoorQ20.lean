/- Layer 5: a call, of the program and of the document. Layer 9, the reference: what nodes are, with all below them. -/
import Derived.Test.YtgklceoodpocaaaGreatDoorQ15
import Derived.Test.YtgklceoodpocaaaGreatDoorQ18
import Derived.Test.YtgklceoodpocaaaGreatDoorQ19
import Derived.Test.YtgklceoodpocaaaGreatDoorQ11
set_option linter.all false
namespace Go.Proofs.YtgklceoodpocaaaGreatDoor
open Go.RowKit
set_option maxRecDepth 100000
attribute [local irreducible] Go.Code.wpIn Go.wpListIn Go.Calls Gives Go.Exit.then Go.Exit.inBlock Done ObxE
abbrev Ac5 := Int × Int × Int × Int × ByteArray × ByteArray
abbrev acV (k x y z : Int) (nm vl : ByteArray) : Value := .agg #[.int .i64 k, .int .i64 x, .int .i64 y, .int .i64 z, .string nm, .string vl]
theorem cut5_len (s : ByteArray) (n : Nat) : (cutF s n).size ≤ n := by
 unfold cutF
 split
 ·rw [ByteArray.size_extract];omega
 ·omega
theorem tidy5_any (k x y z : Int) (nm vl : ByteArray) (w0 : World) : Calls Tryz.prog 17 #[acV k x y z nm vl] w0 (Ret fun r w => r = acV k x y z (cutF nm 20) (cutF vl 40) ∧ St w0 [] w) := by
 refine enter Tryz.func17 rfl Tryz.ntmps17 rfl (fun a hk => ?_);have hS := St.refl w0
 (repeat' (first|((first|refine wx1 ?_|refine wx2 ?_ ?_<;>intro hp|refine s_end hk ?_)<;>(clear hk a;intro a hk))|((first|refine wx3 ?_;intro w b|refine wx4 ?_;intro w|refine wx5 ?_;intro w v);clear hk hS a;intro hS a hk)|refine wx0 ?_|fail))
 refine wp_drawn 7 mixed (by kernel_rfl) hk hS ?_;clear hk hS a
 (repeat' (first|(show ObxE _ _ _ _ _ _ _ _ _ (_::_) _ _ _;first|refine ox1 ?_|refine ox2 ?_ ?_<;>intro hp)|fail))
 refine' obe_val (fun us a w hk hd hS => ?_) ?_;rotate_left;focus (have hk := Kn.vw hk vwx;exact g_callO hk (hf := by kernel_rfl) (hc := cut_any nm 20 _) (h := fun _ _ h => h))
 (repeat' (first|(show ObxE _ _ _ _ _ _ _ _ _ (_::_) _ _ _;first|refine ox1 ?_|refine ox2 ?_ ?_<;>intro hp)|fail))
 refine' obe_val (fun us a w hk hd hS => ?_) ?_;rotate_left;focus (have hk := Kn.vw hk vwx;exact g_callO hk (hf := by kernel_rfl) (hc := cut_any vl 40 _) (h := fun _ _ h => h))
 (repeat' (first|(show ObxE _ _ _ _ _ _ _ _ _ (_::_) _ _ _;first|refine ox1 ?_|refine ox2 ?_ ?_<;>intro hp)|fail))
 refine obe_nil ⟨rfl, ?_⟩;intro us a w hk hS
 (repeat' (first|((first|refine wx1 ?_|refine wx2 ?_ ?_<;>intro hp|refine s_end hk ?_)<;>(clear hk a;intro a hk))|((first|refine wx3 ?_;intro w b|refine wx4 ?_;intro w|refine wx5 ?_;intro w v);clear hk hS a;intro hS a hk)|refine wx0 ?_|fail))
 exact done1R hk rfl (.str hS (hT := aT rfl) (hs := zT rfl)) (h := ⟨rfl, hS.nil⟩)
theorem rnew5_any (most : Int) (w0 : World) : Calls Tryz.prog 6 #[.int .i64 most] w0 (Ret fun r w => St w0 [refO (newP most) r] w) := by
 refine enter Tryz.func6 rfl Tryz.ntmps6 rfl (fun a hk => ?_);have hS := St.refl w0
 (repeat' (first|((first|refine wx1 ?_|refine wx2 ?_ ?_<;>intro hp|refine s_end hk ?_)<;>(clear hk a;intro a hk))|((first|refine wx3 ?_;intro w b|refine wx4 ?_;intro w|refine wx5 ?_;intro w v);clear hk hS a;intro hS a hk)|refine wx0 ?_|fail))
 refine sg hk (g_bsT (xs := [((0, 2, ⟨#[114, 111, 111, 116]⟩, ⟨#[]⟩, ⟨none, 0, 0⟩, ⟨none, 0, 0⟩, ⟨none, 0, 0⟩, -1, ⟨none, 0, 0⟩) : RnH)]) (m := 0) hk hS ?_ (hT := eT rfl) (hE := zT rfl) (hz := oT rfl));clear hk hS a;intro w v7 hS a hk
 obtain ⟨aov7, cv7, hshp, _⟩ := (OwT.rd (hS.rd (A := OwT 73 _ v7) atx)).shape;subst hshp
 (repeat' (first|((first|refine wx1 ?_|refine wx2 ?_ ?_<;>intro hp|refine s_end hk ?_)<;>(clear hk a;intro a hk))|((first|refine wx3 ?_;intro w b|refine wx4 ?_;intro w|refine wx5 ?_;intro w v);clear hk hS a;intro hS a hk)|refine wx0 ?_|fail))
 refine done1R hk rfl (.str hS (hT := aT rfl) (hs := zT rfl)) (h := ?_)
 exact refO.of (D := newP most) (H := [((0, 2, ⟨#[114, 111, 111, 116]⟩, ⟨#[]⟩, ⟨none, 0, 0⟩, ⟨none, 0, 0⟩, ⟨none, 0, 0⟩, -1, ⟨none, 0, 0⟩) : RnH)]) (ao := aov7) (c := cv7) (rdH.of (L1 := [OwT 73 [((0, 2, ⟨#[114, 111, 111, 116]⟩, ⟨#[]⟩, ⟨none, 0, 0⟩, ⟨none, 0, 0⟩, ⟨none, 0, 0⟩, -1, ⟨none, 0, 0⟩) : RnH)] (.slice aov7 1 cv7)]) (hS.sub (.cons atx sbx)) fun g hg =>
  ⟨OwT.rd (hg _ List.mem_cons_self), .cons ⟨none, 0, none, 0, none, 0, none, 0, rfl, SlT.nil (α := ByteArray) g, SlT.nil (α := ByteArray × ByteArray) g, SlT.nil (α := ByteArray × Int) g, SlT.nil (α := Int) g⟩ .nil⟩)
noncomputable def doP (D : DomP) (a : Ac5) : DomP :=
 if a.1 = 0 then (elemP D (cutF a.2.2.2.2.1 20)).1
 else if a.1 = 1 then (textP D (cutF a.2.2.2.2.2 40)).1
 else if a.1 = 2 then (insP D a.2.1 a.2.2.1 a.2.2.2.1).1
 else if a.1 = 3 then (movDP D a.2.1 a.2.2.1).1
 else if a.1 = 4 then (remP D a.2.1).1
 else if 10 ≤ a.1 ∧ a.1 ≤ 17 then (setP D (a.1 - 10) a.2.1 (cutF a.2.2.2.2.1 20) (cutF a.2.2.2.2.2 40) a.2.2.2.1).1
 else D
theorem doP_wf {D : DomP} (h : WfD D) (a : Ac5) : WfD (doP D a) := by
 unfold doP
 repeat' split
 ·exact elemP_wf h _
 ·exact textP_wf h _
 ·exact insP_wf h _ _ _
 ·exact movP_wf h _ _
 ·exact remP_wf h _
 ·exact setP_wf h _ _ _ _ _
 ·exact h
theorem doP_bnd {K : Nat} {D : DomP} (h : Bnd K D) (a : Ac5) : Bnd (K + 1) (doP D a) := by
 unfold doP
 repeat' split
 ·exact elemP_bnd h _
 ·exact textP_bnd h _
 ·exact insP_bnd h _ _ _
 ·exact movP_bnd h _ _
 ·exact (remP_bnd h _).up (by omega)
 ·exact setP_bnd h _ _ _ _ _
 ·exact h.up (by omega)
theorem doP_tx {K : Nat} {D : DomP} (hb : Bnd K D) (h : TxD D) (a : Ac5) : TxD (doP D a) := by
 have h1 := cut5_len a.2.2.2.2.1 20
 have h2 := cut5_len a.2.2.2.2.2 40
 unfold doP
 repeat' split
 ·exact elemP_tx h h1
 ·exact textP_tx h h2
 ·exact insP_tx h _ _ _
 ·exact movP_tx h _ _
 ·exact remP_tx h _
 ·exact setP_tx hb h h1 h2
 ·exact h
section
variable {B : Bs} {w : World} {L : List HP} {bd : Nat} {D : DomP} {K : Nat}
set_option maxHeartbeats 2000000 in
theorem chg5_0 (id num : Int) (name v : ByteArray) (y : Int) (hnl : name.size ≤ 1000) (hW : WfD D) (hb : Bnd K D) (hK : K ≤ 800) (hS : St B (domH bd D :: L) w) :
  Calls Tryz.prog 27 #[pA bd, acV 10 id y num name v] w (Ret fun r w' => r = .int .i64 (setP D 0 id name v num).2 ∧ St B (domH bd (setP D 0 id name v num).1 :: L) w') := by
 refine enter Tryz.func27 rfl Tryz.ntmps27 rfl (fun a hk => ?_)
 (repeat' (first|((first|refine wx1 ?_|refine wx2 ?_ ?_<;>intro hp|refine s_end hk ?_)<;>(clear hk a;intro a hk))|((first|refine wx3 ?_;intro w b|refine wx4 ?_;intro w|refine wx5 ?_;intro w v);clear hk hS a;intro hS a hk)|refine wx0 ?_|fail))
 have hS1 := hS.sub (L' := domH bd D :: L) (.cons atx sbx)
 clear hS
 have hS := hS1
 clear hS1
 refine sg hk (g_callO hk (hf := by kernel_rfl) (hc := setTag_any id name v num hW hb hK (by omega) hS) (h := ?_));clear hk hS a;rintro _ w ⟨rfl, hS⟩ a hk
 (repeat' (first|((first|refine wx1 ?_|refine wx2 ?_ ?_<;>intro hp|refine s_end hk ?_)<;>(clear hk a;intro a hk))|((first|refine wx3 ?_;intro w b|refine wx4 ?_;intro w|refine wx5 ?_;intro w v);clear hk hS a;intro hS a hk)|refine wx0 ?_|fail))
 exact done1 hk (h := ⟨rfl, hS⟩)
set_option maxHeartbeats 2000000 in
theorem chg5_1 (id num : Int) (name v : ByteArray) (y : Int) (hnl : name.size ≤ 1000) (hW : WfD D) (hb : Bnd K D) (hK : K ≤ 800) (hS : St B (domH bd D :: L) w) :
  Calls Tryz.prog 27 #[pA bd, acV 11 id y num name v] w (Ret fun r w' => r = .int .i64 (setP D 1 id name v num).2 ∧ St B (domH bd (setP D 1 id name v num).1 :: L) w') := by
 refine enter Tryz.func27 rfl Tryz.ntmps27 rfl (fun a hk => ?_)
 (repeat' (first|((first|refine wx1 ?_|refine wx2 ?_ ?_<;>intro hp|refine s_end hk ?_)<;>(clear hk a;intro a hk))|((first|refine wx3 ?_;intro w b|refine wx4 ?_;intro w|refine wx5 ?_;intro w v);clear hk hS a;intro hS a hk)|refine wx0 ?_|fail))
 have hS1 := hS.sub (L' := domH bd D :: L) (.cons atx sbx)
 clear hS
 have hS := hS1
 clear hS1
 refine sg hk (g_callO hk (hf := by kernel_rfl) (hc := setText_any id name v num hW hb hK hS) (h := ?_));clear hk hS a;rintro _ w ⟨rfl, hS⟩ a hk
 (repeat' (first|((first|refine wx1 ?_|refine wx2 ?_ ?_<;>intro hp|refine s_end hk ?_)<;>(clear hk a;intro a hk))|((first|refine wx3 ?_;intro w b|refine wx4 ?_;intro w|refine wx5 ?_;intro w v);clear hk hS a;intro hS a hk)|refine wx0 ?_|fail))
 exact done1 hk (h := ⟨rfl, hS⟩)
set_option maxHeartbeats 2000000 in
theorem chg5_2 (id num : Int) (name v : ByteArray) (y : Int) (hnl : name.size ≤ 1000) (hW : WfD D) (hb : Bnd K D) (hK : K ≤ 800) (hS : St B (domH bd D :: L) w) :
  Calls Tryz.prog 27 #[pA bd, acV 12 id y num name v] w (Ret fun r w' => r = .int .i64 (setP D 2 id name v num).2 ∧ St B (domH bd (setP D 2 id name v num).1 :: L) w') := by
 refine enter Tryz.func27 rfl Tryz.ntmps27 rfl (fun a hk => ?_)
 (repeat' (first|((first|refine wx1 ?_|refine wx2 ?_ ?_<;>intro hp|refine s_end hk ?_)<;>(clear hk a;intro a hk))|((first|refine wx3 ?_;intro w b|refine wx4 ?_;intro w|refine wx5 ?_;intro w v);clear hk hS a;intro hS a hk)|refine wx0 ?_|fail))
 have hS1 := hS.sub (L' := domH bd D :: L) (.cons atx sbx)
 clear hS
 have hS := hS1
 clear hS1
 refine sg hk (g_callO hk (hf := by kernel_rfl) (hc := setAttr_any id name v num hW hb hK (by omega) hS) (h := ?_));clear hk hS a;rintro _ w ⟨rfl, hS⟩ a hk
 (repeat' (first|((first|refine wx1 ?_|refine wx2 ?_ ?_<;>intro hp|refine s_end hk ?_)<;>(clear hk a;intro a hk))|((first|refine wx3 ?_;intro w b|refine wx4 ?_;intro w|refine wx5 ?_;intro w v);clear hk hS a;intro hS a hk)|refine wx0 ?_|fail))
 exact done1 hk (h := ⟨rfl, hS⟩)
set_option maxHeartbeats 2000000 in
theorem chg5_3 (id num : Int) (name v : ByteArray) (y : Int) (hnl : name.size ≤ 1000) (hW : WfD D) (hb : Bnd K D) (hK : K ≤ 800) (hS : St B (domH bd D :: L) w) :
  Calls Tryz.prog 27 #[pA bd, acV 13 id y num name v] w (Ret fun r w' => r = .int .i64 (setP D 3 id name v num).2 ∧ St B (domH bd (setP D 3 id name v num).1 :: L) w') := by
 refine enter Tryz.func27 rfl Tryz.ntmps27 rfl (fun a hk => ?_)
 (repeat' (first|((first|refine wx1 ?_|refine wx2 ?_ ?_<;>intro hp|refine s_end hk ?_)<;>(clear hk a;intro a hk))|((first|refine wx3 ?_;intro w b|refine wx4 ?_;intro w|refine wx5 ?_;intro w v);clear hk hS a;intro hS a hk)|refine wx0 ?_|fail))
 have hS1 := hS.sub (L' := domH bd D :: L) (.cons atx sbx)
 clear hS
 have hS := hS1
 clear hS1
 refine sg hk (g_callO hk (hf := by kernel_rfl) (hc := dropAttr_any id name v num hW hb hK (by omega) hS) (h := ?_));clear hk hS a;rintro _ w ⟨rfl, hS⟩ a hk
 (repeat' (first|((first|refine wx1 ?_|refine wx2 ?_ ?_<;>intro hp|refine s_end hk ?_)<;>(clear hk a;intro a hk))|((first|refine wx3 ?_;intro w b|refine wx4 ?_;intro w|refine wx5 ?_;intro w v);clear hk hS a;intro hS a hk)|refine wx0 ?_|fail))
 exact done1 hk (h := ⟨rfl, hS⟩)
set_option maxHeartbeats 2000000 in
theorem chg5_4 (id num : Int) (name v : ByteArray) (y : Int) (hnl : name.size ≤ 1000) (hW : WfD D) (hb : Bnd K D) (hK : K ≤ 800) (hS : St B (domH bd D :: L) w) :
  Calls Tryz.prog 27 #[pA bd, acV 14 id y num name v] w (Ret fun r w' => r = .int .i64 (setP D 4 id name v num).2 ∧ St B (domH bd (setP D 4 id name v num).1 :: L) w') := by
 refine enter Tryz.func27 rfl Tryz.ntmps27 rfl (fun a hk => ?_)
 (repeat' (first|((first|refine wx1 ?_|refine wx2 ?_ ?_<;>intro hp|refine s_end hk ?_)<;>(clear hk a;intro a hk))|((first|refine wx3 ?_;intro w b|refine wx4 ?_;intro w|refine wx5 ?_;intro w v);clear hk hS a;intro hS a hk)|refine wx0 ?_|fail))
 have hS1 := hS.sub (L' := domH bd D :: L) (.cons atx sbx)
 clear hS
 have hS := hS1
 clear hS1
 refine sg hk (g_callO hk (hf := by kernel_rfl) (hc := setStyle_any id name v num hW hb hK (by omega) hS) (h := ?_));clear hk hS a;rintro _ w ⟨rfl, hS⟩ a hk
 (repeat' (first|((first|refine wx1 ?_|refine wx2 ?_ ?_<;>intro hp|refine s_end hk ?_)<;>(clear hk a;intro a hk))|((first|refine wx3 ?_;intro w b|refine wx4 ?_;intro w|refine wx5 ?_;intro w v);clear hk hS a;intro hS a hk)|refine wx0 ?_|fail))
 exact done1 hk (h := ⟨rfl, hS⟩)
set_option maxHeartbeats 2000000 in
theorem chg5_5 (id num : Int) (name v : ByteArray) (y : Int) (hnl : name.size ≤ 1000) (hW : WfD D) (hb : Bnd K D) (hK : K ≤ 800) (hS : St B (domH bd D :: L) w) :
  Calls Tryz.prog 27 #[pA bd, acV 15 id y num name v] w (Ret fun r w' => r = .int .i64 (setP D 5 id name v num).2 ∧ St B (domH bd (setP D 5 id name v num).1 :: L) w') := by
 refine enter Tryz.func27 rfl Tryz.ntmps27 rfl (fun a hk => ?_)
 (repeat' (first|((first|refine wx1 ?_|refine wx2 ?_ ?_<;>intro hp|refine s_end hk ?_)<;>(clear hk a;intro a hk))|((first|refine wx3 ?_;intro w b|refine wx4 ?_;intro w|refine wx5 ?_;intro w v);clear hk hS a;intro hS a hk)|refine wx0 ?_|fail))
 have hS1 := hS.sub (L' := domH bd D :: L) (.cons atx sbx)
 clear hS
 have hS := hS1
 clear hS1
 refine sg hk (g_callO hk (hf := by kernel_rfl) (hc := dropStyle_any id name v num hW hb hK (by omega) hS) (h := ?_));clear hk hS a;rintro _ w ⟨rfl, hS⟩ a hk
 (repeat' (first|((first|refine wx1 ?_|refine wx2 ?_ ?_<;>intro hp|refine s_end hk ?_)<;>(clear hk a;intro a hk))|((first|refine wx3 ?_;intro w b|refine wx4 ?_;intro w|refine wx5 ?_;intro w v);clear hk hS a;intro hS a hk)|refine wx0 ?_|fail))
 exact done1 hk (h := ⟨rfl, hS⟩)
set_option maxHeartbeats 2000000 in
theorem chg5_6 (id num : Int) (name v : ByteArray) (y : Int) (hnl : name.size ≤ 1000) (hW : WfD D) (hb : Bnd K D) (hK : K ≤ 800) (hS : St B (domH bd D :: L) w) :
  Calls Tryz.prog 27 #[pA bd, acV 16 id y num name v] w (Ret fun r w' => r = .int .i64 (setP D 6 id name v num).2 ∧ St B (domH bd (setP D 6 id name v num).1 :: L) w') := by
 refine enter Tryz.func27 rfl Tryz.ntmps27 rfl (fun a hk => ?_)
 (repeat' (first|((first|refine wx1 ?_|refine wx2 ?_ ?_<;>intro hp|refine s_end hk ?_)<;>(clear hk a;intro a hk))|((first|refine wx3 ?_;intro w b|refine wx4 ?_;intro w|refine wx5 ?_;intro w v);clear hk hS a;intro hS a hk)|refine wx0 ?_|fail))
 have hS1 := hS.sub (L' := domH bd D :: L) (.cons atx sbx)
 clear hS
 have hS := hS1
 clear hS1
 refine sg hk (g_callO hk (hf := by kernel_rfl) (hc := addClass_any id name v num hW hb hK (by omega) hS) (h := ?_));clear hk hS a;rintro _ w ⟨rfl, hS⟩ a hk
 (repeat' (first|((first|refine wx1 ?_|refine wx2 ?_ ?_<;>intro hp|refine s_end hk ?_)<;>(clear hk a;intro a hk))|((first|refine wx3 ?_;intro w b|refine wx4 ?_;intro w|refine wx5 ?_;intro w v);clear hk hS a;intro hS a hk)|refine wx0 ?_|fail))
 exact done1 hk (h := ⟨rfl, hS⟩)
set_option maxHeartbeats 2000000 in
theorem chg5_7 (id num : Int) (name v : ByteArray) (y : Int) (hnl : name.size ≤ 1000) (hW : WfD D) (hb : Bnd K D) (hK : K ≤ 800) (hS : St B (domH bd D :: L) w) :
  Calls Tryz.prog 27 #[pA bd, acV 17 id y num name v] w (Ret fun r w' => r = .int .i64 (setP D 7 id name v num).2 ∧ St B (domH bd (setP D 7 id name v num).1 :: L) w') := by
 refine enter Tryz.func27 rfl Tryz.ntmps27 rfl (fun a hk => ?_)
 (repeat' (first|((first|refine wx1 ?_|refine wx2 ?_ ?_<;>intro hp|refine s_end hk ?_)<;>(clear hk a;intro a hk))|((first|refine wx3 ?_;intro w b|refine wx4 ?_;intro w|refine wx5 ?_;intro w v);clear hk hS a;intro hS a hk)|refine wx0 ?_|fail))
 have hS1 := hS.sub (L' := domH bd D :: L) (.cons atx sbx)
 clear hS
 have hS := hS1
 clear hS1
 refine sg hk (g_callO hk (hf := by kernel_rfl) (hc := dropClass_any id name v num hW hb hK (by omega) hS) (h := ?_));clear hk hS a;rintro _ w ⟨rfl, hS⟩ a hk
 (repeat' (first|((first|refine wx1 ?_|refine wx2 ?_ ?_<;>intro hp|refine s_end hk ?_)<;>(clear hk a;intro a hk))|((first|refine wx3 ?_;intro w b|refine wx4 ?_;intro w|refine wx5 ?_;intro w v);clear hk hS a;intro hS a hk)|refine wx0 ?_|fail))
 exact done1 hk (h := ⟨rfl, hS⟩)
set_option maxHeartbeats 16000000 in
theorem do5_any (r0 : Value) (k x y z : Int) (nm0 vl0 : ByteArray) (hW : WfD D) (hb : Bnd K D) (hK : K ≤ 800) (hS : St B (domH bd D :: refO D r0 :: L) w) :
  Calls Tryz.prog 7 #[pA bd, r0, acV k x y z nm0 vl0] w (Ret fun q w' => ∃ r b, q = .tuple #[r, .bool b] ∧ St B (domH bd (doP D (k, x, y, z, nm0, vl0)) :: refO (doP D (k, x, y, z, nm0, vl0)) r :: L) w') := by
 obtain ⟨H, ao, c, rfl, hS1⟩ := hS.refO (.there .here)
 clear hS
 have hS := hS1
 clear hS1
 have hn1 := hW.wf.nx
 refine enter Tryz.func7 rfl Tryz.ntmps7 rfl (fun a hk => ?_)
 refine wpIn_seq ?_;refine wpIn_region_lit ?_
 refine st_box hk hS ?_;clear hk hS a;intro w b4 hS a hk
 refine st_box hk hS ?_;clear hk hS a;intro w b5 hS a hk
 refine st_alloc hk hS ?_;clear hk hS a;intro w b6 hS a hk
 (repeat' (first|((first|refine wx1 ?_|refine wx2 ?_ ?_<;>intro hp|refine s_end hk ?_)<;>(clear hk a;intro a hk))|((first|refine wx3 ?_;intro w b|refine wx4 ?_;intro w|refine wx5 ?_;intro w v);clear hk hS a;intro hS a hk)|refine wx0 ?_|fail))
 refine sg hk (g_callO hk (hf := by kernel_rfl) (hc := tidy5_any k x y z nm0 vl0 _) (h := ?_));clear hk a;rintro _ w ⟨rfl, hS1⟩ a hk;replace hS := hS.call0 hS1;clear hS1
 have hnl := cut5_len nm0 20
 have hvl := cut5_len vl0 40
 unfold doP
 simp only
 generalize cutF nm0 20 = nm at *
 generalize cutF vl0 40 = vl at *
 by_cases k0 : k = 0
 ·subst k0
  rw [if_pos rfl]
  (repeat' (first|((first|refine wx1 ?_|refine wx2 ?_ ?_<;>intro hp|refine s_end hk ?_)<;>(clear hk a;intro a hk))|((first|refine wx3 ?_;intro w b|refine wx4 ?_;intro w|refine wx5 ?_;intro w v);clear hk hS a;intro hS a hk)|refine wx0 ?_|fail))
  rename Nat => b12
  have hS1 := hS.sub (L' := domH bd D :: pts b12 [.int .i64 D.most, .int .i64 D.next, .slice ao H.length c] 28 :: pts b6 [.int .i64 0, .int .i64 0, .slice none 0 0] 28 :: pts b5 [.int .i64 0, .int .i64 x, .int .i64 y, .int .i64 z, .string nm, .string vl] 33 :: pts b4 [.int .i64 D.most, .int .i64 D.next, .slice ao H.length c] 28 :: rdH (Rd5R D H ao c) :: L) (.cons atx (.cons atx (.cons atx (.cons atx (.cons atx (.cons atx sbx))))))
  clear hS
  have hS := hS1
  clear hS1
  refine sg hk (g_callO hk (hf := by kernel_rfl) (hc := elem5_any nm (by omega) hW hb (by omega) hS) (h := ?_));clear hk hS a;rintro _ w ⟨rfl, hS⟩ a hk
  (repeat' (first|((first|refine wx1 ?_|refine wx2 ?_ ?_<;>intro hp|refine s_end hk ?_)<;>(clear hk a;intro a hk))|((first|refine wx3 ?_;intro w b|refine wx4 ?_;intro w|refine wx5 ?_;intro w v);clear hk hS a;intro hS a hk)|refine wx0 ?_|fail))
  have hS1 := refO.of (hS.sub (L' := rdH (Rd5R D H ao c) :: domH bd (elemP D nm).1 :: pts b12 [.int .i64 D.most, .int .i64 D.next, .slice ao H.length c] 28 :: pts b6 [.int .i64 0, .int .i64 0, .slice none 0 0] 28 :: pts b5 [.int .i64 0, .int .i64 x, .int .i64 y, .int .i64 z, .string nm, .string vl] 33 :: pts b4 [.int .i64 D.most, .int .i64 D.next, .slice ao H.length c] 28 :: L) (.cons atx (.cons atx (.cons atx (.cons atx (.cons atx (.cons atx sbx)))))))
  clear hS
  have hS := hS1
  clear hS1
  refine sg hk (g_callO hk (hf := by kernel_rfl) (hc := radd5_any 2 nm (by omega) (.inr rfl) hb hK hn1 hS) (h := ?_));clear hk hS a;rintro _ w ⟨r, rfl, hS⟩ a hk
  obtain ⟨H', ao', c', rfl, hS1⟩ := hS.refO .here
  clear hS
  have hS := hS1
  clear hS1
  (repeat' (first|((first|refine wx1 ?_|refine wx2 ?_ ?_<;>intro hp|refine s_end hk ?_)<;>(clear hk a;intro a hk))|((first|refine wx3 ?_;intro w b|refine wx4 ?_;intro w|refine wx5 ?_;intro w v);clear hk hS a;intro hS a hk)|refine wx0 ?_|fail))
  all_goals exact done2R hk rfl (.str hS (hT := aT rfl) (hs := zT rfl)) (.tmp rfl) (h := ⟨_, _, rfl, (refO.of (hS.sub (L' := rdH (Rd5R (elemP D nm).1 H' ao' c') :: domH bd (elemP D nm).1 :: L) (.cons atx (.cons atx sbx)))).perm (.swap _ _ _)⟩)
 rw [if_neg k0]
 by_cases k1 : k = 1
 ·subst k1
  rw [if_pos rfl]
  (repeat' (first|((first|refine wx1 ?_|refine wx2 ?_ ?_<;>intro hp|refine s_end hk ?_)<;>(clear hk a;intro a hk))|((first|refine wx3 ?_;intro w b|refine wx4 ?_;intro w|refine wx5 ?_;intro w v);clear hk hS a;intro hS a hk)|refine wx0 ?_|fail))
  rename Nat => b12
  have hS1 := hS.sub (L' := domH bd D :: pts b12 [.int .i64 D.most, .int .i64 D.next, .slice ao H.length c] 28 :: pts b6 [.int .i64 0, .int .i64 0, .slice none 0 0] 28 :: pts b5 [.int .i64 1, .int .i64 x, .int .i64 y, .int .i64 z, .string nm, .string vl] 33 :: pts b4 [.int .i64 D.most, .int .i64 D.next, .slice ao H.length c] 28 :: rdH (Rd5R D H ao c) :: L) (.cons atx (.cons atx (.cons atx (.cons atx (.cons atx (.cons atx sbx))))))
  clear hS
  have hS := hS1
  clear hS1
  refine sg hk (g_callO hk (hf := by kernel_rfl) (hc := text5_any vl hW hb (by omega) hS) (h := ?_));clear hk hS a;rintro _ w ⟨rfl, hS⟩ a hk
  (repeat' (first|((first|refine wx1 ?_|refine wx2 ?_ ?_<;>intro hp|refine s_end hk ?_)<;>(clear hk a;intro a hk))|((first|refine wx3 ?_;intro w b|refine wx4 ?_;intro w|refine wx5 ?_;intro w v);clear hk hS a;intro hS a hk)|refine wx0 ?_|fail))
  have hS1 := refO.of (hS.sub (L' := rdH (Rd5R D H ao c) :: domH bd (textP D vl).1 :: pts b12 [.int .i64 D.most, .int .i64 D.next, .slice ao H.length c] 28 :: pts b6 [.int .i64 0, .int .i64 0, .slice none 0 0] 28 :: pts b5 [.int .i64 1, .int .i64 x, .int .i64 y, .int .i64 z, .string nm, .string vl] 33 :: pts b4 [.int .i64 D.most, .int .i64 D.next, .slice ao H.length c] 28 :: L) (.cons atx (.cons atx (.cons atx (.cons atx (.cons atx (.cons atx sbx)))))))
  clear hS
  have hS := hS1
  clear hS1
  refine sg hk (g_callO hk (hf := by kernel_rfl) (hc := radd5_any 1 vl (by omega) (.inl rfl) hb hK hn1 hS) (h := ?_));clear hk hS a;rintro _ w ⟨r, rfl, hS⟩ a hk
  obtain ⟨H', ao', c', rfl, hS1⟩ := hS.refO .here
  clear hS
  have hS := hS1
  clear hS1
  (repeat' (first|((first|refine wx1 ?_|refine wx2 ?_ ?_<;>intro hp|refine s_end hk ?_)<;>(clear hk a;intro a hk))|((first|refine wx3 ?_;intro w b|refine wx4 ?_;intro w|refine wx5 ?_;intro w v);clear hk hS a;intro hS a hk)|refine wx0 ?_|fail))
  all_goals exact done2R hk rfl (.str hS (hT := aT rfl) (hs := zT rfl)) (.tmp rfl) (h := ⟨_, _, rfl, (refO.of (hS.sub (L' := rdH (Rd5R (textP D vl).1 H' ao' c') :: domH bd (textP D vl).1 :: L) (.cons atx (.cons atx sbx)))).perm (.swap _ _ _)⟩)
 rw [if_neg k1]
 by_cases k2 : k = 2
 ·subst k2
  rw [if_pos rfl]
  (repeat' (first|((first|refine wx1 ?_|refine wx2 ?_ ?_<;>intro hp|refine s_end hk ?_)<;>(clear hk a;intro a hk))|((first|refine wx3 ?_;intro w b|refine wx4 ?_;intro w|refine wx5 ?_;intro w v);clear hk hS a;intro hS a hk)|refine wx0 ?_|fail))
  rename Nat => b12
  have hS1 := hS.sub (L' := domH bd D :: pts b12 [.int .i64 D.most, .int .i64 D.next, .slice ao H.length c] 28 :: pts b6 [.int .i64 0, .int .i64 0, .slice none 0 0] 28 :: pts b5 [.int .i64 2, .int .i64 x, .int .i64 y, .int .i64 z, .string nm, .string vl] 33 :: pts b4 [.int .i64 D.most, .int .i64 D.next, .slice ao H.length c] 28 :: rdH (Rd5R D H ao c) :: L) (.cons atx (.cons atx (.cons atx (.cons atx (.cons atx (.cons atx sbx))))))
  clear hS
  have hS := hS1
  clear hS1
  refine sg hk (g_callO hk (hf := by kernel_rfl) (hc := ins5_any x y z hW hb hK hS) (h := ?_));clear hk hS a;rintro _ w ⟨rfl, hS⟩ a hk
  (repeat' (first|((first|refine wx1 ?_|refine wx2 ?_ ?_<;>intro hp|refine s_end hk ?_)<;>(clear hk a;intro a hk))|((first|refine wx3 ?_;intro w b|refine wx4 ?_;intro w|refine wx5 ?_;intro w v);clear hk hS a;intro hS a hk)|refine wx0 ?_|fail))
  have hS1 := refO.of (hS.sub (L' := rdH (Rd5R D H ao c) :: domH bd (insP D x y z).1 :: pts b12 [.int .i64 D.most, .int .i64 D.next, .slice ao H.length c] 28 :: pts b6 [.int .i64 0, .int .i64 0, .slice none 0 0] 28 :: pts b5 [.int .i64 2, .int .i64 x, .int .i64 y, .int .i64 z, .string nm, .string vl] 33 :: pts b4 [.int .i64 D.most, .int .i64 D.next, .slice ao H.length c] 28 :: L) (.cons atx (.cons atx (.cons atx (.cons atx (.cons atx (.cons atx sbx)))))))
  clear hS
  have hS := hS1
  clear hS1
  refine sg hk (g_callO hk (hf := by kernel_rfl) (hc := rins5_any x y z hW hb hK hS) (h := ?_));clear hk hS a;rintro _ w ⟨r, rfl, hS⟩ a hk
  obtain ⟨H', ao', c', rfl, hS1⟩ := hS.refO .here
  clear hS
  have hS := hS1
  clear hS1
  (repeat' (first|((first|refine wx1 ?_|refine wx2 ?_ ?_<;>intro hp|refine s_end hk ?_)<;>(clear hk a;intro a hk))|((first|refine wx3 ?_;intro w b|refine wx4 ?_;intro w|refine wx5 ?_;intro w v);clear hk hS a;intro hS a hk)|refine wx0 ?_|fail))
  all_goals exact done2R hk rfl (.str hS (hT := aT rfl) (hs := zT rfl)) (.tmp rfl) (h := ⟨_, _, rfl, (refO.of (hS.sub (L' := rdH (Rd5R (insP D x y z).1 H' ao' c') :: domH bd (insP D x y z).1 :: L) (.cons atx (.cons atx sbx)))).perm (.swap _ _ _)⟩)
 rw [if_neg k2]
 by_cases k3 : k = 3
 ·subst k3
  rw [if_pos rfl]
  (repeat' (first|((first|refine wx1 ?_|refine wx2 ?_ ?_<;>intro hp|refine s_end hk ?_)<;>(clear hk a;intro a hk))|((first|refine wx3 ?_;intro w b|refine wx4 ?_;intro w|refine wx5 ?_;intro w v);clear hk hS a;intro hS a hk)|refine wx0 ?_|fail))
  rename Nat => b12
  have hS1 := hS.sub (L' := domH bd D :: pts b12 [.int .i64 D.most, .int .i64 D.next, .slice ao H.length c] 28 :: pts b6 [.int .i64 0, .int .i64 0, .slice none 0 0] 28 :: pts b5 [.int .i64 3, .int .i64 x, .int .i64 y, .int .i64 z, .string nm, .string vl] 33 :: pts b4 [.int .i64 D.most, .int .i64 D.next, .slice ao H.length c] 28 :: rdH (Rd5R D H ao c) :: L) (.cons atx (.cons atx (.cons atx (.cons atx (.cons atx (.cons atx sbx))))))
  clear hS
  have hS := hS1
  clear hS1
  refine sg hk (g_callO hk (hf := by kernel_rfl) (hc := move5_any x y hW hb hK hS) (h := ?_));clear hk hS a;rintro _ w ⟨rfl, hS⟩ a hk
  (repeat' (first|((first|refine wx1 ?_|refine wx2 ?_ ?_<;>intro hp|refine s_end hk ?_)<;>(clear hk a;intro a hk))|((first|refine wx3 ?_;intro w b|refine wx4 ?_;intro w|refine wx5 ?_;intro w v);clear hk hS a;intro hS a hk)|refine wx0 ?_|fail))
  have hS1 := refO.of (hS.sub (L' := rdH (Rd5R D H ao c) :: domH bd (movDP D x y).1 :: pts b12 [.int .i64 D.most, .int .i64 D.next, .slice ao H.length c] 28 :: pts b6 [.int .i64 0, .int .i64 0, .slice none 0 0] 28 :: pts b5 [.int .i64 3, .int .i64 x, .int .i64 y, .int .i64 z, .string nm, .string vl] 33 :: pts b4 [.int .i64 D.most, .int .i64 D.next, .slice ao H.length c] 28 :: L) (.cons atx (.cons atx (.cons atx (.cons atx (.cons atx (.cons atx sbx)))))))
  clear hS
  have hS := hS1
  clear hS1
  refine sg hk (g_callO hk (hf := by kernel_rfl) (hc := rmov5_any x y hW hb hK hS) (h := ?_));clear hk hS a;rintro _ w ⟨r, rfl, hS⟩ a hk
  obtain ⟨H', ao', c', rfl, hS1⟩ := hS.refO .here
  clear hS
  have hS := hS1
  clear hS1
  (repeat' (first|((first|refine wx1 ?_|refine wx2 ?_ ?_<;>intro hp|refine s_end hk ?_)<;>(clear hk a;intro a hk))|((first|refine wx3 ?_;intro w b|refine wx4 ?_;intro w|refine wx5 ?_;intro w v);clear hk hS a;intro hS a hk)|refine wx0 ?_|fail))
  all_goals exact done2R hk rfl (.str hS (hT := aT rfl) (hs := zT rfl)) (.tmp rfl) (h := ⟨_, _, rfl, (refO.of (hS.sub (L' := rdH (Rd5R (movDP D x y).1 H' ao' c') :: domH bd (movDP D x y).1 :: L) (.cons atx (.cons atx sbx)))).perm (.swap _ _ _)⟩)
 rw [if_neg k3]
 by_cases k4 : k = 4
 ·subst k4
  rw [if_pos rfl]
  (repeat' (first|((first|refine wx1 ?_|refine wx2 ?_ ?_<;>intro hp|refine s_end hk ?_)<;>(clear hk a;intro a hk))|((first|refine wx3 ?_;intro w b|refine wx4 ?_;intro w|refine wx5 ?_;intro w v);clear hk hS a;intro hS a hk)|refine wx0 ?_|fail))
  rename Nat => b12
  have hS1 := hS.sub (L' := domH bd D :: pts b12 [.int .i64 D.most, .int .i64 D.next, .slice ao H.length c] 28 :: pts b6 [.int .i64 0, .int .i64 0, .slice none 0 0] 28 :: pts b5 [.int .i64 4, .int .i64 x, .int .i64 y, .int .i64 z, .string nm, .string vl] 33 :: pts b4 [.int .i64 D.most, .int .i64 D.next, .slice ao H.length c] 28 :: rdH (Rd5R D H ao c) :: L) (.cons atx (.cons atx (.cons atx (.cons atx (.cons atx (.cons atx sbx))))))
  clear hS
  have hS := hS1
  clear hS1
  refine sg hk (g_callO hk (hf := by kernel_rfl) (hc := rem5_any x hW hb hK hS) (h := ?_));clear hk hS a;rintro _ w ⟨rfl, hS⟩ a hk
  (repeat' (first|((first|refine wx1 ?_|refine wx2 ?_ ?_<;>intro hp|refine s_end hk ?_)<;>(clear hk a;intro a hk))|((first|refine wx3 ?_;intro w b|refine wx4 ?_;intro w|refine wx5 ?_;intro w v);clear hk hS a;intro hS a hk)|refine wx0 ?_|fail))
  have hS1 := refO.of (hS.sub (L' := rdH (Rd5R D H ao c) :: domH bd (remP D x).1 :: pts b12 [.int .i64 D.most, .int .i64 D.next, .slice ao H.length c] 28 :: pts b6 [.int .i64 0, .int .i64 0, .slice none 0 0] 28 :: pts b5 [.int .i64 4, .int .i64 x, .int .i64 y, .int .i64 z, .string nm, .string vl] 33 :: pts b4 [.int .i64 D.most, .int .i64 D.next, .slice ao H.length c] 28 :: L) (.cons atx (.cons atx (.cons atx (.cons atx (.cons atx (.cons atx sbx)))))))
  clear hS
  have hS := hS1
  clear hS1
  refine sg hk (g_callO hk (hf := by kernel_rfl) (hc := rrem5_any x hW hb hK hS) (h := ?_));clear hk hS a;rintro _ w ⟨r, rfl, hS⟩ a hk
  obtain ⟨H', ao', c', rfl, hS1⟩ := hS.refO .here
  clear hS
  have hS := hS1
  clear hS1
  (repeat' (first|((first|refine wx1 ?_|refine wx2 ?_ ?_<;>intro hp|refine s_end hk ?_)<;>(clear hk a;intro a hk))|((first|refine wx3 ?_;intro w b|refine wx4 ?_;intro w|refine wx5 ?_;intro w v);clear hk hS a;intro hS a hk)|refine wx0 ?_|fail))
  all_goals exact done2R hk rfl (.str hS (hT := aT rfl) (hs := zT rfl)) (.tmp rfl) (h := ⟨_, _, rfl, (refO.of (hS.sub (L' := rdH (Rd5R (remP D x).1 H' ao' c') :: domH bd (remP D x).1 :: L) (.cons atx (.cons atx sbx)))).perm (.swap _ _ _)⟩)
 rw [if_neg k4]
 by_cases k5 : 10 ≤ k ∧ k ≤ 17
 ·rw [if_pos k5]
  have hc : k = 10 ∨ k = 11 ∨ k = 12 ∨ k = 13 ∨ k = 14 ∨ k = 15 ∨ k = 16 ∨ k = 17 := by omega
  clear k0 k1 k2 k3 k4 k5
  rcases hc with rfl | rfl | rfl | rfl | rfl | rfl | rfl | rfl
  ·rw [show ((10 : Int) - 10) = 0 from rfl]
   (repeat' (first|((first|refine wx1 ?_|refine wx2 ?_ ?_<;>intro hp|refine s_end hk ?_)<;>(clear hk a;intro a hk))|((first|refine wx3 ?_;intro w b|refine wx4 ?_;intro w|refine wx5 ?_;intro w v);clear hk hS a;intro hS a hk)|refine wx0 ?_|fail))
   rename Nat => b12
   have hS1 := hS.sub (L' := domH bd D :: pts b12 [.int .i64 D.most, .int .i64 D.next, .slice ao H.length c] 28 :: pts b6 [.int .i64 0, .int .i64 0, .slice none 0 0] 28 :: pts b5 [.int .i64 10, .int .i64 x, .int .i64 y, .int .i64 z, .string nm, .string vl] 33 :: pts b4 [.int .i64 D.most, .int .i64 D.next, .slice ao H.length c] 28 :: rdH (Rd5R D H ao c) :: L) (.cons atx (.cons atx (.cons atx (.cons atx (.cons atx (.cons atx sbx))))))
   clear hS
   have hS := hS1
   clear hS1
   refine sg hk (g_callO hk (hf := by kernel_rfl) (hc := chg5_0 x z nm vl y (by omega) hW hb hK hS) (h := ?_));clear hk hS a;rintro _ w ⟨rfl, hS⟩ a hk
   (repeat' (first|((first|refine wx1 ?_|refine wx2 ?_ ?_<;>intro hp|refine s_end hk ?_)<;>(clear hk a;intro a hk))|((first|refine wx3 ?_;intro w b|refine wx4 ?_;intro w|refine wx5 ?_;intro w v);clear hk hS a;intro hS a hk)|refine wx0 ?_|fail))
   rw [show ((10 : Int) - 10) = 0 from rfl] at hk
   have hS1 := refO.of (hS.sub (L' := rdH (Rd5R D H ao c) :: domH bd (setP D 0 x nm vl z).1 :: pts b12 [.int .i64 D.most, .int .i64 D.next, .slice ao H.length c] 28 :: pts b6 [.int .i64 0, .int .i64 0, .slice none 0 0] 28 :: pts b5 [.int .i64 10, .int .i64 x, .int .i64 y, .int .i64 z, .string nm, .string vl] 33 :: pts b4 [.int .i64 D.most, .int .i64 D.next, .slice ao H.length c] 28 :: L) (.cons atx (.cons atx (.cons atx (.cons atx (.cons atx (.cons atx sbx)))))))
   clear hS
   have hS := hS1
   clear hS1
   refine sg hk (g_callO hk (hf := by kernel_rfl) (hc := rset5_0 x nm vl z (by omega) hW hb hK hS) (h := ?_));clear hk hS a;rintro _ w ⟨r, rfl, hS⟩ a hk
   obtain ⟨H', ao', c', rfl, hS1⟩ := hS.refO .here
   clear hS
   have hS := hS1
   clear hS1
   (repeat' (first|((first|refine wx1 ?_|refine wx2 ?_ ?_<;>intro hp|refine s_end hk ?_)<;>(clear hk a;intro a hk))|((first|refine wx3 ?_;intro w b|refine wx4 ?_;intro w|refine wx5 ?_;intro w v);clear hk hS a;intro hS a hk)|refine wx0 ?_|fail))
   all_goals exact done2R hk rfl (.str hS (hT := aT rfl) (hs := zT rfl)) (.tmp rfl) (h := ⟨_, _, rfl, (refO.of (hS.sub (L' := rdH (Rd5R (setP D 0 x nm vl z).1 H' ao' c') :: domH bd (setP D 0 x nm vl z).1 :: L) (.cons atx (.cons atx sbx)))).perm (.swap _ _ _)⟩)
  ·rw [show ((11 : Int) - 10) = 1 from rfl]
   (repeat' (first|((first|refine wx1 ?_|refine wx2 ?_ ?_<;>intro hp|refine s_end hk ?_)<;>(clear hk a;intro a hk))|((first|refine wx3 ?_;intro w b|refine wx4 ?_;intro w|refine wx5 ?_;intro w v);clear hk hS a;intro hS a hk)|refine wx0 ?_|fail))
   rename Nat => b12
   have hS1 := hS.sub (L' := domH bd D :: pts b12 [.int .i64 D.most, .int .i64 D.next, .slice ao H.length c] 28 :: pts b6 [.int .i64 0, .int .i64 0, .slice none 0 0] 28 :: pts b5 [.int .i64 11, .int .i64 x, .int .i64 y, .int .i64 z, .string nm, .string vl] 33 :: pts b4 [.int .i64 D.most, .int .i64 D.next, .slice ao H.length c] 28 :: rdH (Rd5R D H ao c) :: L) (.cons atx (.cons atx (.cons atx (.cons atx (.cons atx (.cons atx sbx))))))
   clear hS
   have hS := hS1
   clear hS1
   refine sg hk (g_callO hk (hf := by kernel_rfl) (hc := chg5_1 x z nm vl y (by omega) hW hb hK hS) (h := ?_));clear hk hS a;rintro _ w ⟨rfl, hS⟩ a hk
   (repeat' (first|((first|refine wx1 ?_|refine wx2 ?_ ?_<;>intro hp|refine s_end hk ?_)<;>(clear hk a;intro a hk))|((first|refine wx3 ?_;intro w b|refine wx4 ?_;intro w|refine wx5 ?_;intro w v);clear hk hS a;intro hS a hk)|refine wx0 ?_|fail))
   rw [show ((11 : Int) - 10) = 1 from rfl] at hk
   have hS1 := refO.of (hS.sub (L' := rdH (Rd5R D H ao c) :: domH bd (setP D 1 x nm vl z).1 :: pts b12 [.int .i64 D.most, .int .i64 D.next, .slice ao H.length c] 28 :: pts b6 [.int .i64 0, .int .i64 0, .slice none 0 0] 28 :: pts b5 [.int .i64 11, .int .i64 x, .int .i64 y, .int .i64 z, .string nm, .string vl] 33 :: pts b4 [.int .i64 D.most, .int .i64 D.next, .slice ao H.length c] 28 :: L) (.cons atx (.cons atx (.cons atx (.cons atx (.cons atx (.cons atx sbx)))))))
   clear hS
   have hS := hS1
   clear hS1
   refine sg hk (g_callO hk (hf := by kernel_rfl) (hc := rset5_1 x nm vl z (by omega) hW hb hK hS) (h := ?_));clear hk hS a;rintro _ w ⟨r, rfl, hS⟩ a hk
   obtain ⟨H', ao', c', rfl, hS1⟩ := hS.refO .here
   clear hS
   have hS := hS1
   clear hS1
   (repeat' (first|((first|refine wx1 ?_|refine wx2 ?_ ?_<;>intro hp|refine s_end hk ?_)<;>(clear hk a;intro a hk))|((first|refine wx3 ?_;intro w b|refine wx4 ?_;intro w|refine wx5 ?_;intro w v);clear hk hS a;intro hS a hk)|refine wx0 ?_|fail))
   all_goals exact done2R hk rfl (.str hS (hT := aT rfl) (hs := zT rfl)) (.tmp rfl) (h := ⟨_, _, rfl, (refO.of (hS.sub (L' := rdH (Rd5R (setP D 1 x nm vl z).1 H' ao' c') :: domH bd (setP D 1 x nm vl z).1 :: L) (.cons atx (.cons atx sbx)))).perm (.swap _ _ _)⟩)
  ·rw [show ((12 : Int) - 10) = 2 from rfl]
   (repeat' (first|((first|refine wx1 ?_|refine wx2 ?_ ?_<;>intro hp|refine s_end hk ?_)<;>(clear hk a;intro a hk))|((first|refine wx3 ?_;intro w b|refine wx4 ?_;intro w|refine wx5 ?_;intro w v);clear hk hS a;intro hS a hk)|refine wx0 ?_|fail))
   rename Nat => b12
   have hS1 := hS.sub (L' := domH bd D :: pts b12 [.int .i64 D.most, .int .i64 D.next, .slice ao H.length c] 28 :: pts b6 [.int .i64 0, .int .i64 0, .slice none 0 0] 28 :: pts b5 [.int .i64 12, .int .i64 x, .int .i64 y, .int .i64 z, .string nm, .string vl] 33 :: pts b4 [.int .i64 D.most, .int .i64 D.next, .slice ao H.length c] 28 :: rdH (Rd5R D H ao c) :: L) (.cons atx (.cons atx (.cons atx (.cons atx (.cons atx (.cons atx sbx))))))
   clear hS
   have hS := hS1
   clear hS1
   refine sg hk (g_callO hk (hf := by kernel_rfl) (hc := chg5_2 x z nm vl y (by omega) hW hb hK hS) (h := ?_));clear hk hS a;rintro _ w ⟨rfl, hS⟩ a hk
   (repeat' (first|((first|refine wx1 ?_|refine wx2 ?_ ?_<;>intro hp|refine s_end hk ?_)<;>(clear hk a;intro a hk))|((first|refine wx3 ?_;intro w b|refine wx4 ?_;intro w|refine wx5 ?_;intro w v);clear hk hS a;intro hS a hk)|refine wx0 ?_|fail))
   rw [show ((12 : Int) - 10) = 2 from rfl] at hk
   have hS1 := refO.of (hS.sub (L' := rdH (Rd5R D H ao c) :: domH bd (setP D 2 x nm vl z).1 :: pts b12 [.int .i64 D.most, .int .i64 D.next, .slice ao H.length c] 28 :: pts b6 [.int .i64 0, .int .i64 0, .slice none 0 0] 28 :: pts b5 [.int .i64 12, .int .i64 x, .int .i64 y, .int .i64 z, .string nm, .string vl] 33 :: pts b4 [.int .i64 D.most, .int .i64 D.next, .slice ao H.length c] 28 :: L) (.cons atx (.cons atx (.cons atx (.cons atx (.cons atx (.cons atx sbx)))))))
   clear hS
   have hS := hS1
   clear hS1
   refine sg hk (g_callO hk (hf := by kernel_rfl) (hc := rset5_2 x nm vl z (by omega) hW hb hK hS) (h := ?_));clear hk hS a;rintro _ w ⟨r, rfl, hS⟩ a hk
   obtain ⟨H', ao', c', rfl, hS1⟩ := hS.refO .here
   clear hS
   have hS := hS1
   clear hS1
   (repeat' (first|((first|refine wx1 ?_|refine wx2 ?_ ?_<;>intro hp|refine s_end hk ?_)<;>(clear hk a;intro a hk))|((first|refine wx3 ?_;intro w b|refine wx4 ?_;intro w|refine wx5 ?_;intro w v);clear hk hS a;intro hS a hk)|refine wx0 ?_|fail))
   all_goals exact done2R hk rfl (.str hS (hT := aT rfl) (hs := zT rfl)) (.tmp rfl) (h := ⟨_, _, rfl, (refO.of (hS.sub (L' := rdH (Rd5R (setP D 2 x nm vl z).1 H' ao' c') :: domH bd (setP D 2 x nm vl z).1 :: L) (.cons atx (.cons atx sbx)))).perm (.swap _ _ _)⟩)
  ·rw [show ((13 : Int) - 10) = 3 from rfl]
   (repeat' (first|((first|refine wx1 ?_|refine wx2 ?_ ?_<;>intro hp|refine s_end hk ?_)<;>(clear hk a;intro a hk))|((first|refine wx3 ?_;intro w b|refine wx4 ?_;intro w|refine wx5 ?_;intro w v);clear hk hS a;intro hS a hk)|refine wx0 ?_|fail))
   rename Nat => b12
   have hS1 := hS.sub (L' := domH bd D :: pts b12 [.int .i64 D.most, .int .i64 D.next, .slice ao H.length c] 28 :: pts b6 [.int .i64 0, .int .i64 0, .slice none 0 0] 28 :: pts b5 [.int .i64 13, .int .i64 x, .int .i64 y, .int .i64 z, .string nm, .string vl] 33 :: pts b4 [.int .i64 D.most, .int .i64 D.next, .slice ao H.length c] 28 :: rdH (Rd5R D H ao c) :: L) (.cons atx (.cons atx (.cons atx (.cons atx (.cons atx (.cons atx sbx))))))
   clear hS
   have hS := hS1
   clear hS1
   refine sg hk (g_callO hk (hf := by kernel_rfl) (hc := chg5_3 x z nm vl y (by omega) hW hb hK hS) (h := ?_));clear hk hS a;rintro _ w ⟨rfl, hS⟩ a hk
   (repeat' (first|((first|refine wx1 ?_|refine wx2 ?_ ?_<;>intro hp|refine s_end hk ?_)<;>(clear hk a;intro a hk))|((first|refine wx3 ?_;intro w b|refine wx4 ?_;intro w|refine wx5 ?_;intro w v);clear hk hS a;intro hS a hk)|refine wx0 ?_|fail))
   rw [show ((13 : Int) - 10) = 3 from rfl] at hk
   have hS1 := refO.of (hS.sub (L' := rdH (Rd5R D H ao c) :: domH bd (setP D 3 x nm vl z).1 :: pts b12 [.int .i64 D.most, .int .i64 D.next, .slice ao H.length c] 28 :: pts b6 [.int .i64 0, .int .i64 0, .slice none 0 0] 28 :: pts b5 [.int .i64 13, .int .i64 x, .int .i64 y, .int .i64 z, .string nm, .string vl] 33 :: pts b4 [.int .i64 D.most, .int .i64 D.next, .slice ao H.length c] 28 :: L) (.cons atx (.cons atx (.cons atx (.cons atx (.cons atx (.cons atx sbx)))))))
   clear hS
   have hS := hS1
   clear hS1
   refine sg hk (g_callO hk (hf := by kernel_rfl) (hc := rset5_3 x nm vl z (by omega) hW hb hK hS) (h := ?_));clear hk hS a;rintro _ w ⟨r, rfl, hS⟩ a hk
   obtain ⟨H', ao', c', rfl, hS1⟩ := hS.refO .here
   clear hS
   have hS := hS1
   clear hS1
   (repeat' (first|((first|refine wx1 ?_|refine wx2 ?_ ?_<;>intro hp|refine s_end hk ?_)<;>(clear hk a;intro a hk))|((first|refine wx3 ?_;intro w b|refine wx4 ?_;intro w|refine wx5 ?_;intro w v);clear hk hS a;intro hS a hk)|refine wx0 ?_|fail))
   all_goals exact done2R hk rfl (.str hS (hT := aT rfl) (hs := zT rfl)) (.tmp rfl) (h := ⟨_, _, rfl, (refO.of (hS.sub (L' := rdH (Rd5R (setP D 3 x nm vl z).1 H' ao' c') :: domH bd (setP D 3 x nm vl z).1 :: L) (.cons atx (.cons atx sbx)))).perm (.swap _ _ _)⟩)
  ·rw [show ((14 : Int) - 10) = 4 from rfl]
   (repeat' (first|((first|refine wx1 ?_|refine wx2 ?_ ?_<;>intro hp|refine s_end hk ?_)<;>(clear hk a;intro a hk))|((first|refine wx3 ?_;intro w b|refine wx4 ?_;intro w|refine wx5 ?_;intro w v);clear hk hS a;intro hS a hk)|refine wx0 ?_|fail))
   rename Nat => b12
   have hS1 := hS.sub (L' := domH bd D :: pts b12 [.int .i64 D.most, .int .i64 D.next, .slice ao H.length c] 28 :: pts b6 [.int .i64 0, .int .i64 0, .slice none 0 0] 28 :: pts b5 [.int .i64 14, .int .i64 x, .int .i64 y, .int .i64 z, .string nm, .string vl] 33 :: pts b4 [.int .i64 D.most, .int .i64 D.next, .slice ao H.length c] 28 :: rdH (Rd5R D H ao c) :: L) (.cons atx (.cons atx (.cons atx (.cons atx (.cons atx (.cons atx sbx))))))
   clear hS
   have hS := hS1
   clear hS1
   refine sg hk (g_callO hk (hf := by kernel_rfl) (hc := chg5_4 x z nm vl y (by omega) hW hb hK hS) (h := ?_));clear hk hS a;rintro _ w ⟨rfl, hS⟩ a hk
   (repeat' (first|((first|refine wx1 ?_|refine wx2 ?_ ?_<;>intro hp|refine s_end hk ?_)<;>(clear hk a;intro a hk))|((first|refine wx3 ?_;intro w b|refine wx4 ?_;intro w|refine wx5 ?_;intro w v);clear hk hS a;intro hS a hk)|refine wx0 ?_|fail))
   rw [show ((14 : Int) - 10) = 4 from rfl] at hk
   have hS1 := refO.of (hS.sub (L' := rdH (Rd5R D H ao c) :: domH bd (setP D 4 x nm vl z).1 :: pts b12 [.int .i64 D.most, .int .i64 D.next, .slice ao H.length c] 28 :: pts b6 [.int .i64 0, .int .i64 0, .slice none 0 0] 28 :: pts b5 [.int .i64 14, .int .i64 x, .int .i64 y, .int .i64 z, .string nm, .string vl] 33 :: pts b4 [.int .i64 D.most, .int .i64 D.next, .slice ao H.length c] 28 :: L) (.cons atx (.cons atx (.cons atx (.cons atx (.cons atx (.cons atx sbx)))))))
   clear hS
   have hS := hS1
   clear hS1
   refine sg hk (g_callO hk (hf := by kernel_rfl) (hc := rset5_4 x nm vl z (by omega) hW hb hK hS) (h := ?_));clear hk hS a;rintro _ w ⟨r, rfl, hS⟩ a hk
   obtain ⟨H', ao', c', rfl, hS1⟩ := hS.refO .here
   clear hS
   have hS := hS1
   clear hS1
   (repeat' (first|((first|refine wx1 ?_|refine wx2 ?_ ?_<;>intro hp|refine s_end hk ?_)<;>(clear hk a;intro a hk))|((first|refine wx3 ?_;intro w b|refine wx4 ?_;intro w|refine wx5 ?_;intro w v);clear hk hS a;intro hS a hk)|refine wx0 ?_|fail))
   all_goals exact done2R hk rfl (.str hS (hT := aT rfl) (hs := zT rfl)) (.tmp rfl) (h := ⟨_, _, rfl, (refO.of (hS.sub (L' := rdH (Rd5R (setP D 4 x nm vl z).1 H' ao' c') :: domH bd (setP D 4 x nm vl z).1 :: L) (.cons atx (.cons atx sbx)))).perm (.swap _ _ _)⟩)
  ·rw [show ((15 : Int) - 10) = 5 from rfl]
   (repeat' (first|((first|refine wx1 ?_|refine wx2 ?_ ?_<;>intro hp|refine s_end hk ?_)<;>(clear hk a;intro a hk))|((first|refine wx3 ?_;intro w b|refine wx4 ?_;intro w|refine wx5 ?_;intro w v);clear hk hS a;intro hS a hk)|refine wx0 ?_|fail))
   rename Nat => b12
   have hS1 := hS.sub (L' := domH bd D :: pts b12 [.int .i64 D.most, .int .i64 D.next, .slice ao H.length c] 28 :: pts b6 [.int .i64 0, .int .i64 0, .slice none 0 0] 28 :: pts b5 [.int .i64 15, .int .i64 x, .int .i64 y, .int .i64 z, .string nm, .string vl] 33 :: pts b4 [.int .i64 D.most, .int .i64 D.next, .slice ao H.length c] 28 :: rdH (Rd5R D H ao c) :: L) (.cons atx (.cons atx (.cons atx (.cons atx (.cons atx (.cons atx sbx))))))
   clear hS
   have hS := hS1
   clear hS1
   refine sg hk (g_callO hk (hf := by kernel_rfl) (hc := chg5_5 x z nm vl y (by omega) hW hb hK hS) (h := ?_));clear hk hS a;rintro _ w ⟨rfl, hS⟩ a hk
   (repeat' (first|((first|refine wx1 ?_|refine wx2 ?_ ?_<;>intro hp|refine s_end hk ?_)<;>(clear hk a;intro a hk))|((first|refine wx3 ?_;intro w b|refine wx4 ?_;intro w|refine wx5 ?_;intro w v);clear hk hS a;intro hS a hk)|refine wx0 ?_|fail))
   rw [show ((15 : Int) - 10) = 5 from rfl] at hk
   have hS1 := refO.of (hS.sub (L' := rdH (Rd5R D H ao c) :: domH bd (setP D 5 x nm vl z).1 :: pts b12 [.int .i64 D.most, .int .i64 D.next, .slice ao H.length c] 28 :: pts b6 [.int .i64 0, .int .i64 0, .slice none 0 0] 28 :: pts b5 [.int .i64 15, .int .i64 x, .int .i64 y, .int .i64 z, .string nm, .string vl] 33 :: pts b4 [.int .i64 D.most, .int .i64 D.next, .slice ao H.length c] 28 :: L) (.cons atx (.cons atx (.cons atx (.cons atx (.cons atx (.cons atx sbx)))))))
   clear hS
   have hS := hS1
   clear hS1
   refine sg hk (g_callO hk (hf := by kernel_rfl) (hc := rset5_5 x nm vl z (by omega) hW hb hK hS) (h := ?_));clear hk hS a;rintro _ w ⟨r, rfl, hS⟩ a hk
   obtain ⟨H', ao', c', rfl, hS1⟩ := hS.refO .here
   clear hS
   have hS := hS1
   clear hS1
   (repeat' (first|((first|refine wx1 ?_|refine wx2 ?_ ?_<;>intro hp|refine s_end hk ?_)<;>(clear hk a;intro a hk))|((first|refine wx3 ?_;intro w b|refine wx4 ?_;intro w|refine wx5 ?_;intro w v);clear hk hS a;intro hS a hk)|refine wx0 ?_|fail))
   all_goals exact done2R hk rfl (.str hS (hT := aT rfl) (hs := zT rfl)) (.tmp rfl) (h := ⟨_, _, rfl, (refO.of (hS.sub (L' := rdH (Rd5R (setP D 5 x nm vl z).1 H' ao' c') :: domH bd (setP D 5 x nm vl z).1 :: L) (.cons atx (.cons atx sbx)))).perm (.swap _ _ _)⟩)
  ·rw [show ((16 : Int) - 10) = 6 from rfl]
   (repeat' (first|((first|refine wx1 ?_|refine wx2 ?_ ?_<;>intro hp|refine s_end hk ?_)<;>(clear hk a;intro a hk))|((first|refine wx3 ?_;intro w b|refine wx4 ?_;intro w|refine wx5 ?_;intro w v);clear hk hS a;intro hS a hk)|refine wx0 ?_|fail))
   rename Nat => b12
   have hS1 := hS.sub (L' := domH bd D :: pts b12 [.int .i64 D.most, .int .i64 D.next, .slice ao H.length c] 28 :: pts b6 [.int .i64 0, .int .i64 0, .slice none 0 0] 28 :: pts b5 [.int .i64 16, .int .i64 x, .int .i64 y, .int .i64 z, .string nm, .string vl] 33 :: pts b4 [.int .i64 D.most, .int .i64 D.next, .slice ao H.length c] 28 :: rdH (Rd5R D H ao c) :: L) (.cons atx (.cons atx (.cons atx (.cons atx (.cons atx (.cons atx sbx))))))
   clear hS
   have hS := hS1
   clear hS1
   refine sg hk (g_callO hk (hf := by kernel_rfl) (hc := chg5_6 x z nm vl y (by omega) hW hb hK hS) (h := ?_));clear hk hS a;rintro _ w ⟨rfl, hS⟩ a hk
   (repeat' (first|((first|refine wx1 ?_|refine wx2 ?_ ?_<;>intro hp|refine s_end hk ?_)<;>(clear hk a;intro a hk))|((first|refine wx3 ?_;intro w b|refine wx4 ?_;intro w|refine wx5 ?_;intro w v);clear hk hS a;intro hS a hk)|refine wx0 ?_|fail))
   rw [show ((16 : Int) - 10) = 6 from rfl] at hk
   have hS1 := refO.of (hS.sub (L' := rdH (Rd5R D H ao c) :: domH bd (setP D 6 x nm vl z).1 :: pts b12 [.int .i64 D.most, .int .i64 D.next, .slice ao H.length c] 28 :: pts b6 [.int .i64 0, .int .i64 0, .slice none 0 0] 28 :: pts b5 [.int .i64 16, .int .i64 x, .int .i64 y, .int .i64 z, .string nm, .string vl] 33 :: pts b4 [.int .i64 D.most, .int .i64 D.next, .slice ao H.length c] 28 :: L) (.cons atx (.cons atx (.cons atx (.cons atx (.cons atx (.cons atx sbx)))))))
   clear hS
   have hS := hS1
   clear hS1
   refine sg hk (g_callO hk (hf := by kernel_rfl) (hc := rset5_6 x nm vl z (by omega) hW hb hK hS) (h := ?_));clear hk hS a;rintro _ w ⟨r, rfl, hS⟩ a hk
   obtain ⟨H', ao', c', rfl, hS1⟩ := hS.refO .here
   clear hS
   have hS := hS1
   clear hS1
   (repeat' (first|((first|refine wx1 ?_|refine wx2 ?_ ?_<;>intro hp|refine s_end hk ?_)<;>(clear hk a;intro a hk))|((first|refine wx3 ?_;intro w b|refine wx4 ?_;intro w|refine wx5 ?_;intro w v);clear hk hS a;intro hS a hk)|refine wx0 ?_|fail))
   all_goals exact done2R hk rfl (.str hS (hT := aT rfl) (hs := zT rfl)) (.tmp rfl) (h := ⟨_, _, rfl, (refO.of (hS.sub (L' := rdH (Rd5R (setP D 6 x nm vl z).1 H' ao' c') :: domH bd (setP D 6 x nm vl z).1 :: L) (.cons atx (.cons atx sbx)))).perm (.swap _ _ _)⟩)
  ·rw [show ((17 : Int) - 10) = 7 from rfl]
   (repeat' (first|((first|refine wx1 ?_|refine wx2 ?_ ?_<;>intro hp|refine s_end hk ?_)<;>(clear hk a;intro a hk))|((first|refine wx3 ?_;intro w b|refine wx4 ?_;intro w|refine wx5 ?_;intro w v);clear hk hS a;intro hS a hk)|refine wx0 ?_|fail))
   rename Nat => b12
   have hS1 := hS.sub (L' := domH bd D :: pts b12 [.int .i64 D.most, .int .i64 D.next, .slice ao H.length c] 28 :: pts b6 [.int .i64 0, .int .i64 0, .slice none 0 0] 28 :: pts b5 [.int .i64 17, .int .i64 x, .int .i64 y, .int .i64 z, .string nm, .string vl] 33 :: pts b4 [.int .i64 D.most, .int .i64 D.next, .slice ao H.length c] 28 :: rdH (Rd5R D H ao c) :: L) (.cons atx (.cons atx (.cons atx (.cons atx (.cons atx (.cons atx sbx))))))
   clear hS
   have hS := hS1
   clear hS1
   refine sg hk (g_callO hk (hf := by kernel_rfl) (hc := chg5_7 x z nm vl y (by omega) hW hb hK hS) (h := ?_));clear hk hS a;rintro _ w ⟨rfl, hS⟩ a hk
   (repeat' (first|((first|refine wx1 ?_|refine wx2 ?_ ?_<;>intro hp|refine s_end hk ?_)<;>(clear hk a;intro a hk))|((first|refine wx3 ?_;intro w b|refine wx4 ?_;intro w|refine wx5 ?_;intro w v);clear hk hS a;intro hS a hk)|refine wx0 ?_|fail))
   rw [show ((17 : Int) - 10) = 7 from rfl] at hk
   have hS1 := refO.of (hS.sub (L' := rdH (Rd5R D H ao c) :: domH bd (setP D 7 x nm vl z).1 :: pts b12 [.int .i64 D.most, .int .i64 D.next, .slice ao H.length c] 28 :: pts b6 [.int .i64 0, .int .i64 0, .slice none 0 0] 28 :: pts b5 [.int .i64 17, .int .i64 x, .int .i64 y, .int .i64 z, .string nm, .string vl] 33 :: pts b4 [.int .i64 D.most, .int .i64 D.next, .slice ao H.length c] 28 :: L) (.cons atx (.cons atx (.cons atx (.cons atx (.cons atx (.cons atx sbx)))))))
   clear hS
   have hS := hS1
   clear hS1
   refine sg hk (g_callO hk (hf := by kernel_rfl) (hc := rset5_7 x nm vl z (by omega) hW hb hK hS) (h := ?_));clear hk hS a;rintro _ w ⟨r, rfl, hS⟩ a hk
   obtain ⟨H', ao', c', rfl, hS1⟩ := hS.refO .here
   clear hS
   have hS := hS1
   clear hS1
   (repeat' (first|((first|refine wx1 ?_|refine wx2 ?_ ?_<;>intro hp|refine s_end hk ?_)<;>(clear hk a;intro a hk))|((first|refine wx3 ?_;intro w b|refine wx4 ?_;intro w|refine wx5 ?_;intro w v);clear hk hS a;intro hS a hk)|refine wx0 ?_|fail))
   all_goals exact done2R hk rfl (.str hS (hT := aT rfl) (hs := zT rfl)) (.tmp rfl) (h := ⟨_, _, rfl, (refO.of (hS.sub (L' := rdH (Rd5R (setP D 7 x nm vl z).1 H' ao' c') :: domH bd (setP D 7 x nm vl z).1 :: L) (.cons atx (.cons atx sbx)))).perm (.swap _ _ _)⟩)
 ·rw [if_neg k5]
  (repeat' (first|((first|refine wx1 ?_|refine wx2 ?_ ?_<;>intro hp|refine s_end hk ?_)<;>(clear hk a;intro a hk))|((first|refine wx3 ?_;intro w b|refine wx4 ?_;intro w|refine wx5 ?_;intro w v);clear hk hS a;intro hS a hk)|refine wx0 ?_|fail))
  all_goals exact done2R hk rfl (.str hS (hT := aT rfl) (hs := zT rfl)) (.tmp rfl) (h := ⟨_, _, rfl, (refO.of (hS.sub (L' := rdH (Rd5R D H ao c) :: domH bd D :: L) (.cons atx (.cons atx sbx)))).perm (.swap _ _ _)⟩)
end
end Go.Proofs.YtgklceoodpocaaaGreatDoor
namespace Go.Proofs.YtgklceoodpocaaaGreatDoor
open Go.RowKit
set_option maxRecDepth 100000
attribute [local irreducible] Go.Code.wpIn Go.wpListIn Go.Calls Gives Go.Exit.then Go.Exit.inBlock Done ObxE
theorem rread5_none {D : DomP} {H : List RnH} {ao : Option Addr} {c : Nat} {id : Int} (w0 : World) (hl : H.length ≤ 1000) (hR : Rd5R D H ao c w0) (hn : D.f id = none) :
  Calls Tryz.prog 9 #[rdV D H.length ao c, .int .i64 id] w0 (Ret fun v w => v = .tuple #[snV zSn, .bool false] ∧ St w0 [] w) := by
 refine enter Tryz.func9 rfl Tryz.ntmps9 rfl (fun a hk => ?_);have hS := St.refl w0
 (repeat' (first|((first|refine wx1 ?_|refine wx2 ?_ ?_<;>intro hp|refine s_end hk ?_)<;>(clear hk a;intro a hk))|((first|refine wx3 ?_;intro w b|refine wx4 ?_;intro w|refine wx5 ?_;intro w v);clear hk hS a;intro hS a hk)|refine wx0 ?_|fail))
 refine sg hk (g_callO hk (hf := by kernel_rfl) (hc := rfind5_any D.most D.next H _ id _ (hS.rdT hR.1) (by omega)) (h := ?_));clear hk a;rintro _ w ⟨rfl, hS1⟩ a hk;replace hS := hS.call0 hS1;clear hS1
 rw [hR.2.non hn] at hk
 simp only [Option.getD_none, Option.isSome_none] at hk
 (repeat' (first|((first|refine wx1 ?_|refine wx2 ?_ ?_<;>intro hp|refine s_end hk ?_)<;>(clear hk a;intro a hk))|((first|refine wx3 ?_;intro w b|refine wx4 ?_;intro w|refine wx5 ?_;intro w v);clear hk hS a;intro hS a hk)|refine wx0 ?_|fail))
 exact done2R hk rfl (.str hS (hT := aT rfl) (hs := zT rfl)) (.tmp rfl) (h := ⟨rfl, hS.nil⟩)
set_option maxHeartbeats 8000000 in
theorem rread5_any {D : DomP} {H : List RnH} {ao : Option Addr} {c : Nat} (hW : WfD D) (hb : Bnd 100 D) (hl : H.length ≤ 1000) : ∀ (id : Int) (n : NodeP), D.f id = some n → ∀ (K : World → Prop) (B : Bs) (L : List HP) (w : World), Stays K → (∀ g, K g → Rd5R D H ao c g) → St B (rdH K :: L) w →
  Calls Tryz.prog 9 #[rdV D H.length ao c, .int .i64 id] w (Ret fun v w' => ∃ h, v = .tuple #[snV h, .bool true] ∧ St B (rdH (fun g => K g ∧ SrR g (trN D.f id) h) :: L) w') := by
 intro id
 induction hW.wf.accD id with
 | intro id _ ih =>
  intro n hn K B L w hKs hK hS
  have hnb := hb.get hn
  have b4 := hnb.kids
  have htr := trN_some hW.wf.accD hn
  have hdown := hW.wf.down id n hn
  have hkd : ∀ k ∈ n.kids, kidOf D.f k id := fun k hk => ⟨n, hn, hk⟩
  have en : n.id = id := fnd_id hn
  have hKw : ∀ {w : World} {X L' : List HP}, St B X w → At (rdH K) X L' → Rd5R D H ao c w := fun h hat => hK _ (rdH.rd hKs (h.rd hat))
  have hR0 := hKw hS .here
  obtain ⟨x, hxn, hrn⟩ := hR0.2.fnd hn
  obtain ⟨a1, c1, a2, c2, a3, c3, a4, c4, rfl, -⟩ := hrn
  have hfour : ∀ g, K g → SlT n.cls (.slice a1 n.cls.length c1) g ∧ SlT n.att (.slice a2 n.att.length c2) g ∧ SlT n.sty (.slice a3 n.sty.length c3) g ∧ SlT n.kids (.slice a4 n.kids.length c4) g := fun g hg => by
   have h := fnd_at (hK g hg) hn hxn
   obtain ⟨d1, e1, d2, e2, d3, e3, d4, e4, e, h1, h2, h3, h4⟩ := h
   simp only [Prod.mk.injEq, Hd.mk.injEq, true_and] at e
   obtain ⟨⟨rfl, rfl⟩, ⟨rfl, rfl⟩, ⟨rfl, rfl⟩, ⟨rfl, rfl⟩⟩ := e
   exact ⟨h1, h2, h3, h4⟩
  clear hR0 hnb
  rw [htr]
  clear htr
  refine enter Tryz.func9 rfl Tryz.ntmps9 rfl (fun a hk => ?_)
  refine wpIn_seq ?_;refine wpIn_region_lit ?_
  refine st_box hk hS ?_;clear hk hS a;intro w b2 hS a hk
  refine st_alloc hk hS ?_;clear hk hS a;intro w b4r hS a hk
  (repeat' (first|((first|refine wx1 ?_|refine wx2 ?_ ?_<;>intro hp|refine s_end hk ?_)<;>(clear hk a;intro a hk))|((first|refine wx3 ?_;intro w b|refine wx4 ?_;intro w|refine wx5 ?_;intro w v);clear hk hS a;intro hS a hk)|refine wx0 ?_|fail))
  refine sg hk (g_callO hk (hf := by kernel_rfl) (hc := rfind5_any D.most D.next H _ id _ (hKw hS atx).1 (by omega)) (h := ?_));clear hk a;rintro _ w ⟨rfl, hS1⟩ a hk;replace hS := hS.call0 hS1;clear hS1
  rw [hxn] at hk
  simp only [Option.getD_some, Option.isSome_some] at hk
  obtain ⟨nid, kind, tag, text, cls, att, sty, par, kids⟩ := n
  simp only at b4 hdown hkd en hk hfour
  subst en
  (repeat' (first|((first|refine wx1 ?_|refine wx2 ?_ ?_<;>intro hp|refine s_end hk ?_)<;>(clear hk a;intro a hk))|((first|refine wx3 ?_;intro w b|refine wx4 ?_;intro w|refine wx5 ?_;intro w v);clear hk hS a;intro hS a hk)|refine wx0 ?_|fail))
  have hv4 : SlT kids (.slice a4 kids.length c4) w := (hfour w (rdH.rd hKs (hS.rd (A := rdH K) atx))).2.2.2
  (repeat' (first|((first|refine wx1 ?_|refine wx2 ?_ ?_<;>intro hp|refine s_end hk ?_)<;>(clear hk a;intro a hk))|((first|refine wx3 ?_;intro w b|refine wx4 ?_;intro w|refine wx5 ?_;intro w v);clear hk hS a;intro hS a hk)|refine wx0 ?_|fail))
  clear hv4
  rename Nat => b8
  have hS1 := rdH.to (R := fun g => K g ∧ SoR g [] []) (fun g hg => ⟨hg, SoR.nil g⟩) (hS.nilT 49 SnH |>.sub (L' := rdH K :: OwT 49 ([] : List SnH) (.slice none 0 0) :: pts b8 [.int .i64 nid, .int .i64 kind, .string tag, .string text, .slice a1 cls.length c1, .slice a2 att.length c2, .slice a3 sty.length c3, .slice none 0 0] 49 :: pts b4r [.int .i64 0, .int .i64 0, .string ⟨#[]⟩, .string ⟨#[]⟩, .slice none 0 0, .slice none 0 0, .slice none 0 0, .slice none 0 0] 49 :: pts b2 [.int .i64 D.most, .int .i64 D.next, .slice ao H.length c] 28 :: L) (.cons atx (.cons atx (.cons atx (.cons atx (.cons atx sbx))))))
  clear hS
  have hS := hS1
  clear hS1
  replace hk := Kn.kp [2, 4, 8, 37, 38, 39] hk
  refine wp_for kids.length (fun i _ => [(39, .int .i64 (i : Int))]) (fun i v => rdH (fun g => K g ∧ SoR g ((kids.take i).map (trN D.f)) (v.2 : List SnH)) :: OwT 49 v.2 (.slice v.1.1 i v.1.2) :: pts b8 [.int .i64 nid, .int .i64 kind, .string tag, .string text, .slice a1 cls.length c1, .slice a2 att.length c2, .slice a3 sty.length c3, .slice v.1.1 i v.1.2] 49 :: pts b4r [.int .i64 0, .int .i64 0, .string ⟨#[]⟩, .string ⟨#[]⟩, .slice none 0 0, .slice none 0 0, .slice none 0 0, .slice none 0 0] 49 :: pts b2 [.int .i64 D.most, .int .i64 D.next, .slice ao H.length c] 28 :: L) (fun _ _ => True) (((none, 0), []) : (Option Addr × Nat) × List SnH) hk skx hS trivial ?_
  clear hk hS a
  rintro j ⟨⟨ak, ck⟩, H'⟩ a w hj hk hS -
  simp only at hS hk
  have hstay : Stays (fun g => K g ∧ SoR g ((kids.take j).map (trN D.f)) H') := stays_and hKs (SoR.stays _ _)
  have hKj := rdH.rd hstay (hS.rd .here)
  have hHl : H'.length = j := by rw [hKj.2.1, List.length_map, List.length_take];omega
  have hv4 : SlT kids (.slice a4 kids.length c4) w := (hfour w hKj.1).2.2.2
  by_cases hjl : j < kids.length
  ·obtain ⟨k, hx⟩ : ∃ k, kids[j]? = some k := ⟨_, List.getElem?_eq_getElem hjl⟩
   have hmk := List.mem_of_getElem? hx
   obtain ⟨cn, hc, -⟩ := hdown k hmk
   have hst : (kids.take (j + 1)).map (trN D.f) = (kids.take j).map (trN D.f) ++ [trN D.f k] := by rw [take_snoc hx, List.map_append];rfl
   generalize hK2 : (fun g => K g ∧ SoR g ((kids.take j).map (trN D.f)) H') = K2 at hS hstay
   have hK2' : ∀ g, K2 g → K g ∧ SoR g ((kids.take j).map (trN D.f)) H' := fun g hg => by rw [← hK2] at hg;exact hg
   (repeat' (first|((first|refine wx1 ?_|refine wx2 ?_ ?_<;>intro hp|refine s_end hk ?_)<;>(clear hk a;intro a hk))|((first|refine wx3 ?_;intro w b|refine wx4 ?_;intro w|refine wx5 ?_;intro w v);clear hk hS a;intro hS a hk)|refine wx0 ?_|fail))
   refine sg hk (g_callO hk (hf := by kernel_rfl) (hc := ih k (hkd k hmk) cn hc K2 B _ _ hstay (fun g hg => hK g (hK2' g hg).1) hS) (h := ?_));clear hk hS a hv4 hKj;rintro _ w ⟨⟨id2, k2, tag2, text2, ⟨x12, x22, x32⟩, ⟨y12, y22, y32⟩, ⟨z12, z22, z32⟩, ⟨u12, u22, u32⟩⟩, rfl, hS⟩ a hk
   (repeat' (first|((first|refine wx1 ?_|refine wx2 ?_ ?_<;>intro hp|refine s_end hk ?_)<;>(clear hk a;intro a hk))|((first|refine wx3 ?_;intro w b|refine wx4 ?_;intro w|refine wx5 ?_;intro w v);clear hk hS a;intro hS a hk)|refine wx0 ?_|fail))
   rename Nat => b11
   refine sg hk (g_bsT (xs := [((id2, k2, tag2, text2, ⟨x12, x22, x32⟩, ⟨y12, y22, y32⟩, ⟨z12, z22, z32⟩, ⟨u12, u22, u32⟩) : SnH)]) (m := 0) hk hS ?_ (hT := eT rfl) (hE := zT rfl) (hz := oT rfl));clear hk hS a;intro w v52 hS a hk
   refine sg hk (g_appD hk hS ?_ (hT := eT rfl) (hTx := eT rfl) (hE := zT rfl) (hz := oT rfl) (hzs := rfl) (hby := bT rfl) (hbytes := (by simp only [List.length_cons, List.length_nil];omega)) (h63 := (by simp only [List.length_cons, List.length_nil, maxLen];omega)));clear hk hS a;intro w v hS a hk
   rename Value => vn
   obtain ⟨aovn, cvn, hshp, _⟩ := (OwT.rd (hS.rd (A := OwT 49 _ vn) atx)).shape;subst hshp
   have hl1 : (H' ++ [((id2, k2, tag2, text2, ⟨x12, x22, x32⟩, ⟨y12, y22, y32⟩, ⟨z12, z22, z32⟩, ⟨u12, u22, u32⟩) : SnH)]).length = j + 1 := by rw [List.length_append, hHl];rfl
   rw [hl1] at hS hk
   (repeat' (first|((first|refine wx1 ?_|refine wx2 ?_ ?_<;>intro hp|refine s_end hk ?_)<;>(clear hk a;intro a hk))|((first|refine wx3 ?_;intro w b|refine wx4 ?_;intro w|refine wx5 ?_;intro w v);clear hk hS a;intro hS a hk)|refine wx0 ?_|fail))
   refine ⟨hjl, ((aovn, cvn), H' ++ [(id2, k2, tag2, text2, ⟨x12, x22, x32⟩, ⟨y12, y22, y32⟩, ⟨z12, z22, z32⟩, ⟨u12, u22, u32⟩)]), hk.sd, ?_, trivial⟩
   refine rdH.to (K := fun g => K2 g ∧ SrR g (trN D.f k) (id2, k2, tag2, text2, ⟨x12, x22, x32⟩, ⟨y12, y22, y32⟩, ⟨z12, z22, z32⟩, ⟨u12, u22, u32⟩)) (fun g hg => ?_) (hS.sub (.cons atx (.cons atx (.cons atx (.cons atx (.cons atx sbx))))))
   obtain ⟨hg1, hg2⟩ := hg
   have hg3 := hK2' g hg1
   rw [hst]
   exact ⟨hg3.1, hg3.2.snoc hg2⟩
  ·have hjj : j = kids.length := by omega
   subst hjj
   rw [List.take_length] at hS
   clear hv4 hKj
   (repeat' (first|((first|refine wx1 ?_|refine wx2 ?_ ?_<;>intro hp|refine s_end hk ?_)<;>(clear hk a;intro a hk))|((first|refine wx3 ?_;intro w b|refine wx4 ?_;intro w|refine wx5 ?_;intro w v);clear hk hS a;intro hS a hk)|refine wx0 ?_|fail))
   refine done2R hk rfl (.str hS (hT := aT rfl) (hs := zT rfl)) (.tmp rfl) (h := ⟨(nid, kind, tag, text, ⟨a1, cls.length, c1⟩, ⟨a2, att.length, c2⟩, ⟨a3, sty.length, c3⟩, ⟨ak, kids.length, ck⟩), rfl, ?_⟩)
   refine rdH.of (L := L) (L1 := [rdH (fun g => K g ∧ SoR g (kids.map (trN D.f)) H'), OwT 49 H' (.slice ak kids.length ck)]) (hS.sub (.cons atx (.cons atx sbx))) fun g hg => ?_
   have hg1 : K g ∧ SoR g (kids.map (trN D.f)) H' := rdH.rd (stays_and hKs (SoR.stays _ _)) (hg _ List.mem_cons_self)
   obtain ⟨f1, f2, f3, -⟩ := hfour g hg1.1
   exact ⟨hg1.1, .mk f1 f2 f3 (OwT.rd (hg (OwT 49 H' (.slice ak kids.length ck)) (by simp))) hg1.2.1 hg1.2.2⟩
end Go.Proofs.YtgklceoodpocaaaGreatDoor
