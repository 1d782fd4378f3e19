/- Layer 5, the reference: a node is changed, its styles. Layer 5, the reference: a node is changed, its styles. Layer 5, the reference: a node is changed, its classes. Layer 5, the reference: a node is changed, its classes. Digits of numbers, beginnings of texts: what the library gives. A strings.Builder that a call has made itself. A strings.Builder that is written: what its methods do. A strings.Builder's methods, and strings.Join with blanks, as steps of a call. -/
import Derived.Test.YtgklceoodpocaaaGreatDoorQ17
import Derived.Test.YtgklceoodpocaaaGreatDoorQ12
import Derived.Test.YtgklceoodpocaaaGreatDoorShelf
import Derived.Test.YtgklceoodpocaaaGreatDoorQ07
import Derived.Lib.AppendIntMem
import Derived.Lib.LaidTab
import Derived.LaidLaws
import Derived.Shelf.Strings.Builder1
set_option linter.all false
namespace Go.Proofs.YtgklceoodpocaaaGreatDoor
open Go.RowKit
set_option maxRecDepth 100000
attribute [local irreducible] Go.Code.wpIn Go.wpListIn Go.Calls Gives Go.Exit.then Go.Exit.inBlock Done ObxE
section
variable {B : Bs} {w : World} {L : List HP} {D : DomP} {K : Nat} {r0 : Value}
set_option maxHeartbeats 8000000 in
theorem rset5_4 (id : Int) (name v : ByteArray) (num : Int) (hnl : name.size ≤ 1000) (hW : WfD D) (hb : Bnd K D) (hK : K ≤ 800) (hS : St B (refO D r0 :: L) w) :
  Calls Tryz.prog 28 #[r0, .int .i64 4, .int .i64 id, .string name, .string v, .int .i64 num] w (Ret fun q w' => ∃ r, q = .tuple #[r, .int .i64 (setP D 4 id name v num).2] ∧ St B (refO (setP D 4 id name v num).1 r :: L) w') := by
 obtain ⟨H, ao, c, rfl, hS1⟩ := hS.refO .here
 clear hS
 have hS := hS1
 clear hS1
 have hRd := hS.rdr .here
 have hHl := hRd.2.len
 have hlen := hb.len
 have hret : ∀ {w : World} {X : List HP}, Sub (rdH (Rd5R D H ao c) :: L) X → St B X w → St B (refO D (rdV D H.length ao c) :: L) w := fun hs h => refO.of (h.sub hs)
 have hRn := hRd.2
 clear hRd
 refine enter Tryz.func28 rfl Tryz.ntmps28 rfl (fun a hk => ?_)
 refine wpIn_seq ?_;refine wpIn_region_lit ?_
 refine st_box hk hS ?_;clear hk hS a;intro w b6 hS a hk
 refine st_alloc hk hS ?_;clear hk hS a;intro w b12 hS a hk
 (repeat' (first|((first|refine wx1 ?_|refine wx2 ?_ ?_<;>intro hp|refine s_end hk ?_)<;>(clear hk a;intro a hk))|((first|refine wx3 ?_;intro w b|refine wx4 ?_;intro w|refine wx5 ?_;intro w v);clear hk hS a;intro hS a hk)|refine wx0 ?_|fail))
 refine sg hk (g_callO hk (hf := by kernel_rfl) (hc := rfind5_any D.most D.next H _ id _ (hS.rdr (D := D) (H := H) (ao := ao) (c := c) atx).1 (by omega)) (h := ?_));clear hk a;rintro _ w ⟨rfl, hS1⟩ a hk;replace hS := hS.call0 hS1;clear hS1
 cases hn : D.f id with
 | none =>
  have e : setP D 4 id name v num = (D, 11) := by unfold setP;rw [hn]
  rw [e]
  rw [hRn.non hn] at hk
  simp only [Option.getD_none, Option.isSome_none] at hk
  (repeat' (first|((first|refine wx1 ?_|refine wx2 ?_ ?_<;>intro hp|refine s_end hk ?_)<;>(clear hk a;intro a hk))|((first|refine wx3 ?_;intro w b|refine wx4 ?_;intro w|refine wx5 ?_;intro w v);clear hk hS a;intro hS a hk)|refine wx0 ?_|fail))
  exact done2R hk rfl (.str hS (hT := aT rfl) (hs := zT rfl)) (.tmp rfl) (h := ⟨_, rfl, hret (.cons atx sbx) hS⟩)
 | some n =>
  obtain ⟨x, hxn, hrn⟩ := hRn.fnd hn
  obtain ⟨a5, c5, a6, c6, a7, c7, a8, c8, rfl, -⟩ := hrn
  rw [hxn] at hk
  simp only [Option.getD_some, Option.isSome_some] at hk
  have hnb := hb.get hn
  have b1 := hnb.cls
  have b2 := hnb.att
  have b3 := hnb.sty
  by_cases h0 : id = 0
  ·have ho : ownP D id 2 name = 1 := by unfold ownP;rw [hn];simp only;rw [if_pos h0]
   rw [setP_no (kind := 4) (show ownP D id (kndC 4) name ≠ 0 by show ownP D id 2 name ≠ 0;omega), show ownP D id (kndC 4) name = 1 from ho]
   (repeat' (first|((first|refine wx1 ?_|refine wx2 ?_ ?_<;>intro hp|refine s_end hk ?_)<;>(clear hk a;intro a hk))|((first|refine wx3 ?_;intro w b|refine wx4 ?_;intro w|refine wx5 ?_;intro w v);clear hk hS a;intro hS a hk)|refine wx0 ?_|fail))
   exact done2R hk rfl (.str hS (hT := aT rfl) (hs := zT rfl)) (.tmp rfl) (h := ⟨_, rfl, hret (.cons atx sbx) hS⟩)
  ·rcases hW.wf.knd id n hn with hkd | hkd
   ·have ho : ownP D id 2 name = 14 := by unfold ownP;rw [hn];simp only;rw [if_neg h0, if_pos (show n.kind ≠ 2 by omega)]
    rw [setP_no (kind := 4) (show ownP D id (kndC 4) name ≠ 0 by show ownP D id 2 name ≠ 0;omega), show ownP D id (kndC 4) name = 14 from ho]
    (repeat' (first|((first|refine wx1 ?_|refine wx2 ?_ ?_<;>intro hp|refine s_end hk ?_)<;>(clear hk a;intro a hk))|((first|refine wx3 ?_;intro w b|refine wx4 ?_;intro w|refine wx5 ?_;intro w v);clear hk hS a;intro hS a hk)|refine wx0 ?_|fail))
    exact done2R hk rfl (.str hS (hT := aT rfl) (hs := zT rfl)) (.tmp rfl) (h := ⟨_, rfl, hret (.cons atx sbx) hS⟩)
   ·(repeat' (first|((first|refine wx1 ?_|refine wx2 ?_ ?_<;>intro hp|refine s_end hk ?_)<;>(clear hk a;intro a hk))|((first|refine wx3 ?_;intro w b|refine wx4 ?_;intro w|refine wx5 ?_;intro w v);clear hk hS a;intro hS a hk)|refine wx0 ?_|fail))
    rename Nat => b14
    refine sg hk (g_callO hk (hf := by kernel_rfl) (hc := rname_any name hnl _) (h := ?_));clear hk a;rintro _ w ⟨rfl, hS1⟩ a hk;replace hS := hS.call0 hS1;clear hS1
    cases hnm : nameS name with
    | false =>
     have ho : ownP D id 2 name = 2 := by unfold ownP;rw [hn];simp only;rw [if_neg h0, if_neg (show ¬ (n.kind ≠ 2) from fun h => h hkd), if_pos (by first | exact ⟨rfl, hnm⟩ | exact ⟨trivial, hnm⟩)]
     rw [setP_no (kind := 4) (show ownP D id (kndC 4) name ≠ 0 by show ownP D id 2 name ≠ 0;omega), show ownP D id (kndC 4) name = 2 from ho]
     rw [hnm] at hk
     (repeat' (first|((first|refine wx1 ?_|refine wx2 ?_ ?_<;>intro hp|refine s_end hk ?_)<;>(clear hk a;intro a hk))|((first|refine wx3 ?_;intro w b|refine wx4 ?_;intro w|refine wx5 ?_;intro w v);clear hk hS a;intro hS a hk)|refine wx0 ?_|fail))
     exact done2R hk rfl (.str hS (hT := aT rfl) (hs := zT rfl)) (.tmp rfl) (h := ⟨_, rfl, hret (.cons atx sbx) hS⟩)
    | true =>
     have ho : ownP D id (kndC 4) name = 0 := by show ownP D id 2 name = 0;exact (by unfold ownP;rw [hn];simp only;rw [if_neg h0, if_neg (show ¬ (n.kind ≠ 2) from fun h => h hkd), if_neg (fun h => by rw [hnm] at h;cases h.2)])
     rw [hnm] at hk
     rw [setP_some (kind := 4) (n' := { n with sty := putF nmI n.sty (name, satF num) }) hn ho (by simp [chgP])]
     (repeat' (first|((first|refine wx1 ?_|refine wx2 ?_ ?_<;>intro hp|refine s_end hk ?_)<;>(clear hk a;intro a hk))|((first|refine wx3 ?_;intro w b|refine wx4 ?_;intro w|refine wx5 ?_;intro w v);clear hk hS a;intro hS a hk)|refine wx0 ?_|fail))
     refine sg hk (g_bs0 PrI hS ?_ (hT := eT rfl) (hE := zT rfl));clear hk hS a;intro w v107 hS a hk
     refine sg hk (g_field hk ?_ (fT rfl));clear hk a;intro a hk
     refine sg hk (g_own1 hk hS ?_ (aT rfl));clear hk a;intro a hk
     refine sg hk (g_appT (xs := ([] : List PrI)) (ys := n.sty) hk hS ?_ (hT := eT rfl) (hTx := eT rfl) (hE := zT rfl) (hz := oT rfl) (hzs := rfl) (hs := (four5 (fnd_at (hS.rdr (D := D) (H := H) (ao := ao) (c := c) atx) hn hxn)).2.2.1) (hby := bT rfl) (hbytes := by simp only [List.length_nil];omega) (h63 := by simp only [maxLen, List.length_nil];omega));clear hk hS a;intro w v110 hS a hk
     rw [List.nil_append] at hS
     (repeat' (first|((first|refine wx1 ?_|refine wx2 ?_ ?_<;>intro hp|refine s_end hk ?_)<;>(clear hk a;intro a hk))|((first|refine wx3 ?_;intro w b|refine wx4 ?_;intro w|refine wx5 ?_;intro w v);clear hk hS a;intro hS a hk)|refine wx0 ?_|fail))
     refine sg hk (g_callO hk (hf := by kernel_rfl) (hc := rsat_any num _) (h := ?_));clear hk a;rintro _ w ⟨rfl, hS1⟩ a hk;replace hS := hS.call0 hS1;clear hS1
     (repeat' (first|((first|refine wx1 ?_|refine wx2 ?_ ?_<;>intro hp|refine s_end hk ?_)<;>(clear hk a;intro a hk))|((first|refine wx3 ?_;intro w b|refine wx4 ?_;intro w|refine wx5 ?_;intro w v);clear hk hS a;intro hS a hk)|refine wx0 ?_|fail))
     refine sg hk (g_bsT (xs := [((name, satF num) : PrI)]) (m := 0) hk hS ?_ (hT := eT rfl) (hE := zT rfl) (hz := oT rfl));clear hk hS a;intro w v hS a hk;refine sg hk (g_appD hk hS ?_ (hT := eT rfl) (hTx := eT rfl) (hE := zT rfl) (hz := oT rfl) (hzs := rfl) (hby := bT rfl) (hbytes := (by simp only [List.length_cons, List.length_nil];omega)) (h63 := (by simp only [List.length_cons, List.length_nil, maxLen];omega)));clear hk hS a;intro w v hS a hk
     have hl2 : (n.sty ++ [((name, satF num) : PrI)]).length = n.sty.length + 1 := by simp
     refine sg hk (g_callO hk (hf := by kernel_rfl) (hc := refOf_any (n.sty ++ [((name, satF num) : PrI)]) _ _ (by first | exact St.rdT hS (by assumption) | exact OwT.rd (hS.rd (A := OwT _ _ _) atx) | assumption) (by omega)) (h := ?_));clear hk a;rintro vk w hS1 a hk;replace hS := hS.call hS1;clear hS1
     rw [List.cons_append, List.nil_append, snap_app nmI hnb.rs] at hS
     obtain ⟨aovk, cvk, hshp, _⟩ := (OwT.rd (hS.rd (A := OwT 103 _ vk) atx)).shape;subst hshp
     (repeat' (first|((first|refine wx1 ?_|refine wx2 ?_ ?_<;>intro hp|refine s_end hk ?_)<;>(clear hk a;intro a hk))|((first|refine wx3 ?_;intro w b|refine wx4 ?_;intro w|refine wx5 ?_;intro w v);clear hk hS a;intro hS a hk)|refine wx0 ?_|fail))
     refine sg hk (g_callO hk (hf := by kernel_rfl) (hc := rputO_any D.most D.next H _ (n.id, n.kind, n.tag, n.text, ⟨a5, n.cls.length, c5⟩, ⟨a6, n.att.length, c6⟩, ⟨aovk, (putF nmI n.sty (name, satF num)).length, cvk⟩, n.par, ⟨a8, n.kids.length, c8⟩) _ (hS.rdr (D := D) (H := H) (ao := ao) (c := c) atx).1 (by omega)) (h := ?_));clear hk a;rintro vp w hS1 a hk;replace hS := hS.call hS1;clear hS1
     rw [List.cons_append, List.nil_append] at hS
     obtain ⟨ax, cx, rfl, hS1⟩ := hS.putO (r := vp) atx
     clear hS
     have hS := hS1
     clear hS1
     (repeat' (first|((first|refine wx1 ?_|refine wx2 ?_ ?_<;>intro hp|refine s_end hk ?_)<;>(clear hk a;intro a hk))|((first|refine wx3 ?_;intro w b|refine wx4 ?_;intro w|refine wx5 ?_;intro w v);clear hk hS a;intro hS a hk)|refine wx0 ?_|fail))
     refine done2R hk rfl (.str hS (hT := aT rfl) (hs := zT rfl)) (.tmp rfl) (h := ⟨_, rfl, ?_⟩)
     refine refO.of (L := L) (D := { D with l := putP D.l { n with sty := putF nmI n.sty (name, satF num) } }) (H := putR H (n.id, n.kind, n.tag, n.text, ⟨a5, n.cls.length, c5⟩, ⟨a6, n.att.length, c6⟩, ⟨aovk, (putF nmI n.sty (name, satF num)).length, cvk⟩, n.par, ⟨a8, n.kids.length, c8⟩)) (ao := ax) (c := cx) (rdH.of (L := L) (L1 := [OwT 73 (putR H (n.id, n.kind, n.tag, n.text, ⟨a5, n.cls.length, c5⟩, ⟨a6, n.att.length, c6⟩, ⟨aovk, (putF nmI n.sty (name, satF num)).length, cvk⟩, n.par, ⟨a8, n.kids.length, c8⟩)) (.slice ax (putR H (n.id, n.kind, n.tag, n.text, ⟨a5, n.cls.length, c5⟩, ⟨a6, n.att.length, c6⟩, ⟨aovk, (putF nmI n.sty (name, satF num)).length, cvk⟩, n.par, ⟨a8, n.kids.length, c8⟩)).length cx), OwT 103 (putF nmI n.sty (name, satF num)) (.slice aovk (putF nmI n.sty (name, satF num)).length cvk), rdH (Rd5R D H ao c)]) (hS.sub (.cons atx (.cons atx (.cons atx sbx)))) fun g hg => ?_)
     have g1 := OwT.rd (hg (OwT 73 (putR H (n.id, n.kind, n.tag, n.text, ⟨a5, n.cls.length, c5⟩, ⟨a6, n.att.length, c6⟩, ⟨aovk, (putF nmI n.sty (name, satF num)).length, cvk⟩, n.par, ⟨a8, n.kids.length, c8⟩)) (.slice ax (putR H (n.id, n.kind, n.tag, n.text, ⟨a5, n.cls.length, c5⟩, ⟨a6, n.att.length, c6⟩, ⟨aovk, (putF nmI n.sty (name, satF num)).length, cvk⟩, n.par, ⟨a8, n.kids.length, c8⟩)).length cx)) (by simp))
     have g2 := OwT.rd (hg (OwT 103 (putF nmI n.sty (name, satF num)) (.slice aovk (putF nmI n.sty (name, satF num)).length cvk)) (by simp))
     have g3 := rdH.rd (Rd5R.stays D H ao c) (hg (rdH (Rd5R D H ao c)) (by simp))
     obtain ⟨s1, s2, s3, s4⟩ := four5 (fnd_at g3 hn hxn)
     exact ⟨g1, RowsR.put (n := { n with sty := putF nmI n.sty (name, satF num) }) g3.2 ⟨a5, c5, a6, c6, aovk, cvk, a8, c8, rfl, s1, s2, g2, s4⟩⟩
end
end Go.Proofs.YtgklceoodpocaaaGreatDoor
namespace Go.Proofs.YtgklceoodpocaaaGreatDoor
open Go.RowKit
set_option maxRecDepth 100000
attribute [local irreducible] Go.Code.wpIn Go.wpListIn Go.Calls Gives Go.Exit.then Go.Exit.inBlock Done ObxE
section
variable {B : Bs} {w : World} {L : List HP} {D : DomP} {K : Nat} {r0 : Value}
set_option maxHeartbeats 8000000 in
theorem rset5_5 (id : Int) (name v : ByteArray) (num : Int) (hnl : name.size ≤ 1000) (hW : WfD D) (hb : Bnd K D) (hK : K ≤ 800) (hS : St B (refO D r0 :: L) w) :
  Calls Tryz.prog 28 #[r0, .int .i64 5, .int .i64 id, .string name, .string v, .int .i64 num] w (Ret fun q w' => ∃ r, q = .tuple #[r, .int .i64 (setP D 5 id name v num).2] ∧ St B (refO (setP D 5 id name v num).1 r :: L) w') := by
 obtain ⟨H, ao, c, rfl, hS1⟩ := hS.refO .here
 clear hS
 have hS := hS1
 clear hS1
 have hRd := hS.rdr .here
 have hHl := hRd.2.len
 have hlen := hb.len
 have hret : ∀ {w : World} {X : List HP}, Sub (rdH (Rd5R D H ao c) :: L) X → St B X w → St B (refO D (rdV D H.length ao c) :: L) w := fun hs h => refO.of (h.sub hs)
 have hRn := hRd.2
 clear hRd
 refine enter Tryz.func28 rfl Tryz.ntmps28 rfl (fun a hk => ?_)
 refine wpIn_seq ?_;refine wpIn_region_lit ?_
 refine st_box hk hS ?_;clear hk hS a;intro w b6 hS a hk
 refine st_alloc hk hS ?_;clear hk hS a;intro w b12 hS a hk
 (repeat' (first|((first|refine wx1 ?_|refine wx2 ?_ ?_<;>intro hp|refine s_end hk ?_)<;>(clear hk a;intro a hk))|((first|refine wx3 ?_;intro w b|refine wx4 ?_;intro w|refine wx5 ?_;intro w v);clear hk hS a;intro hS a hk)|refine wx0 ?_|fail))
 refine sg hk (g_callO hk (hf := by kernel_rfl) (hc := rfind5_any D.most D.next H _ id _ (hS.rdr (D := D) (H := H) (ao := ao) (c := c) atx).1 (by omega)) (h := ?_));clear hk a;rintro _ w ⟨rfl, hS1⟩ a hk;replace hS := hS.call0 hS1;clear hS1
 cases hn : D.f id with
 | none =>
  have e : setP D 5 id name v num = (D, 11) := by unfold setP;rw [hn]
  rw [e]
  rw [hRn.non hn] at hk
  simp only [Option.getD_none, Option.isSome_none] at hk
  (repeat' (first|((first|refine wx1 ?_|refine wx2 ?_ ?_<;>intro hp|refine s_end hk ?_)<;>(clear hk a;intro a hk))|((first|refine wx3 ?_;intro w b|refine wx4 ?_;intro w|refine wx5 ?_;intro w v);clear hk hS a;intro hS a hk)|refine wx0 ?_|fail))
  exact done2R hk rfl (.str hS (hT := aT rfl) (hs := zT rfl)) (.tmp rfl) (h := ⟨_, rfl, hret (.cons atx sbx) hS⟩)
 | some n =>
  obtain ⟨x, hxn, hrn⟩ := hRn.fnd hn
  obtain ⟨a5, c5, a6, c6, a7, c7, a8, c8, rfl, -⟩ := hrn
  rw [hxn] at hk
  simp only [Option.getD_some, Option.isSome_some] at hk
  have hnb := hb.get hn
  have b1 := hnb.cls
  have b2 := hnb.att
  have b3 := hnb.sty
  by_cases h0 : id = 0
  ·have ho : ownP D id 2 name = 1 := by unfold ownP;rw [hn];simp only;rw [if_pos h0]
   rw [setP_no (kind := 5) (show ownP D id (kndC 5) name ≠ 0 by show ownP D id 2 name ≠ 0;omega), show ownP D id (kndC 5) name = 1 from ho]
   (repeat' (first|((first|refine wx1 ?_|refine wx2 ?_ ?_<;>intro hp|refine s_end hk ?_)<;>(clear hk a;intro a hk))|((first|refine wx3 ?_;intro w b|refine wx4 ?_;intro w|refine wx5 ?_;intro w v);clear hk hS a;intro hS a hk)|refine wx0 ?_|fail))
   exact done2R hk rfl (.str hS (hT := aT rfl) (hs := zT rfl)) (.tmp rfl) (h := ⟨_, rfl, hret (.cons atx sbx) hS⟩)
  ·rcases hW.wf.knd id n hn with hkd | hkd
   ·have ho : ownP D id 2 name = 14 := by unfold ownP;rw [hn];simp only;rw [if_neg h0, if_pos (show n.kind ≠ 2 by omega)]
    rw [setP_no (kind := 5) (show ownP D id (kndC 5) name ≠ 0 by show ownP D id 2 name ≠ 0;omega), show ownP D id (kndC 5) name = 14 from ho]
    (repeat' (first|((first|refine wx1 ?_|refine wx2 ?_ ?_<;>intro hp|refine s_end hk ?_)<;>(clear hk a;intro a hk))|((first|refine wx3 ?_;intro w b|refine wx4 ?_;intro w|refine wx5 ?_;intro w v);clear hk hS a;intro hS a hk)|refine wx0 ?_|fail))
    exact done2R hk rfl (.str hS (hT := aT rfl) (hs := zT rfl)) (.tmp rfl) (h := ⟨_, rfl, hret (.cons atx sbx) hS⟩)
   ·(repeat' (first|((first|refine wx1 ?_|refine wx2 ?_ ?_<;>intro hp|refine s_end hk ?_)<;>(clear hk a;intro a hk))|((first|refine wx3 ?_;intro w b|refine wx4 ?_;intro w|refine wx5 ?_;intro w v);clear hk hS a;intro hS a hk)|refine wx0 ?_|fail))
    rename Nat => b14
    refine sg hk (g_callO hk (hf := by kernel_rfl) (hc := rname_any name hnl _) (h := ?_));clear hk a;rintro _ w ⟨rfl, hS1⟩ a hk;replace hS := hS.call0 hS1;clear hS1
    cases hnm : nameS name with
    | false =>
     have ho : ownP D id 2 name = 2 := by unfold ownP;rw [hn];simp only;rw [if_neg h0, if_neg (show ¬ (n.kind ≠ 2) from fun h => h hkd), if_pos (by first | exact ⟨rfl, hnm⟩ | exact ⟨trivial, hnm⟩)]
     rw [setP_no (kind := 5) (show ownP D id (kndC 5) name ≠ 0 by show ownP D id 2 name ≠ 0;omega), show ownP D id (kndC 5) name = 2 from ho]
     rw [hnm] at hk
     (repeat' (first|((first|refine wx1 ?_|refine wx2 ?_ ?_<;>intro hp|refine s_end hk ?_)<;>(clear hk a;intro a hk))|((first|refine wx3 ?_;intro w b|refine wx4 ?_;intro w|refine wx5 ?_;intro w v);clear hk hS a;intro hS a hk)|refine wx0 ?_|fail))
     exact done2R hk rfl (.str hS (hT := aT rfl) (hs := zT rfl)) (.tmp rfl) (h := ⟨_, rfl, hret (.cons atx sbx) hS⟩)
    | true =>
     have ho : ownP D id (kndC 5) name = 0 := by show ownP D id 2 name = 0;exact (by unfold ownP;rw [hn];simp only;rw [if_neg h0, if_neg (show ¬ (n.kind ≠ 2) from fun h => h hkd), if_neg (fun h => by rw [hnm] at h;cases h.2)])
     rw [hnm] at hk
     (repeat' (first|((first|refine wx1 ?_|refine wx2 ?_ ?_<;>intro hp|refine s_end hk ?_)<;>(clear hk a;intro a hk))|((first|refine wx3 ?_;intro w b|refine wx4 ?_;intro w|refine wx5 ?_;intro w v);clear hk hS a;intro hS a hk)|refine wx0 ?_|fail))
     refine sg hk (g_callO hk (hf := by kernel_rfl) (hc := rget04_any n.sty name _ _ (four5 (fnd_at (hS.rdr (D := D) (H := H) (ao := ao) (c := c) atx) hn hxn)).2.2.1 (by omega)) (h := ?_));clear hk a;rintro _ w ⟨rfl, hS1⟩ a hk;replace hS := hS.call0 hS1;clear hS1
     cases hf : (lastF nmI n.sty name).isSome with
     | false =>
      rw [setP_non (kind := 5) hn ho (by simp [chgP, hf])]
      rw [hf] at hk
      (repeat' (first|((first|refine wx1 ?_|refine wx2 ?_ ?_<;>intro hp|refine s_end hk ?_)<;>(clear hk a;intro a hk))|((first|refine wx3 ?_;intro w b|refine wx4 ?_;intro w|refine wx5 ?_;intro w v);clear hk hS a;intro hS a hk)|refine wx0 ?_|fail))
      exact done2R hk rfl (.str hS (hT := aT rfl) (hs := zT rfl)) (.tmp rfl) (h := ⟨_, rfl, hret (.cons atx sbx) hS⟩)
     | true =>
      rw [setP_some (kind := 5) (n' := { n with sty := n.sty.filter (fun x => !decide (x.1 = name)) }) hn ho (by simp [chgP, hf])]
      rw [hf] at hk
      (repeat' (first|((first|refine wx1 ?_|refine wx2 ?_ ?_<;>intro hp|refine s_end hk ?_)<;>(clear hk a;intro a hk))|((first|refine wx3 ?_;intro w b|refine wx4 ?_;intro w|refine wx5 ?_;intro w v);clear hk hS a;intro hS a hk)|refine wx0 ?_|fail))
      refine sg hk (g_callO hk (hf := by kernel_rfl) (hc := rdrop04_any n.sty name _ _ (four5 (fnd_at (hS.rdr (D := D) (H := H) (ao := ao) (c := c) atx) hn hxn)).2.2.1 (by omega)) (h := ?_));clear hk a;rintro vk w hS1 a hk;replace hS := hS.call hS1;clear hS1
      rw [show dropI n.sty name = n.sty.filter (fun x => !decide (x.1 = name)) from by unfold dropI;rw [snap_of_rises nmI hnb.rs]] at hS
      rw [List.cons_append, List.nil_append] at hS
      obtain ⟨aovk, cvk, hshp, _⟩ := (OwT.rd (hS.rd (A := OwT 103 _ vk) atx)).shape;subst hshp
      (repeat' (first|((first|refine wx1 ?_|refine wx2 ?_ ?_<;>intro hp|refine s_end hk ?_)<;>(clear hk a;intro a hk))|((first|refine wx3 ?_;intro w b|refine wx4 ?_;intro w|refine wx5 ?_;intro w v);clear hk hS a;intro hS a hk)|refine wx0 ?_|fail))
      refine sg hk (g_callO hk (hf := by kernel_rfl) (hc := rputO_any D.most D.next H _ (n.id, n.kind, n.tag, n.text, ⟨a5, n.cls.length, c5⟩, ⟨a6, n.att.length, c6⟩, ⟨aovk, (n.sty.filter (fun x => !decide (x.1 = name))).length, cvk⟩, n.par, ⟨a8, n.kids.length, c8⟩) _ (hS.rdr (D := D) (H := H) (ao := ao) (c := c) atx).1 (by omega)) (h := ?_));clear hk a;rintro vp w hS1 a hk;replace hS := hS.call hS1;clear hS1
      rw [List.cons_append, List.nil_append] at hS
      obtain ⟨ax, cx, rfl, hS1⟩ := hS.putO (r := vp) atx
      clear hS
      have hS := hS1
      clear hS1
      (repeat' (first|((first|refine wx1 ?_|refine wx2 ?_ ?_<;>intro hp|refine s_end hk ?_)<;>(clear hk a;intro a hk))|((first|refine wx3 ?_;intro w b|refine wx4 ?_;intro w|refine wx5 ?_;intro w v);clear hk hS a;intro hS a hk)|refine wx0 ?_|fail))
      refine done2R hk rfl (.str hS (hT := aT rfl) (hs := zT rfl)) (.tmp rfl) (h := ⟨_, rfl, ?_⟩)
      refine refO.of (L := L) (D := { D with l := putP D.l { n with sty := n.sty.filter (fun x => !decide (x.1 = name)) } }) (H := putR H (n.id, n.kind, n.tag, n.text, ⟨a5, n.cls.length, c5⟩, ⟨a6, n.att.length, c6⟩, ⟨aovk, (n.sty.filter (fun x => !decide (x.1 = name))).length, cvk⟩, n.par, ⟨a8, n.kids.length, c8⟩)) (ao := ax) (c := cx) (rdH.of (L := L) (L1 := [OwT 73 (putR H (n.id, n.kind, n.tag, n.text, ⟨a5, n.cls.length, c5⟩, ⟨a6, n.att.length, c6⟩, ⟨aovk, (n.sty.filter (fun x => !decide (x.1 = name))).length, cvk⟩, n.par, ⟨a8, n.kids.length, c8⟩)) (.slice ax (putR H (n.id, n.kind, n.tag, n.text, ⟨a5, n.cls.length, c5⟩, ⟨a6, n.att.length, c6⟩, ⟨aovk, (n.sty.filter (fun x => !decide (x.1 = name))).length, cvk⟩, n.par, ⟨a8, n.kids.length, c8⟩)).length cx), OwT 103 (n.sty.filter (fun x => !decide (x.1 = name))) (.slice aovk (n.sty.filter (fun x => !decide (x.1 = name))).length cvk), rdH (Rd5R D H ao c)]) (hS.sub (.cons atx (.cons atx (.cons atx sbx)))) fun g hg => ?_)
      have g1 := OwT.rd (hg (OwT 73 (putR H (n.id, n.kind, n.tag, n.text, ⟨a5, n.cls.length, c5⟩, ⟨a6, n.att.length, c6⟩, ⟨aovk, (n.sty.filter (fun x => !decide (x.1 = name))).length, cvk⟩, n.par, ⟨a8, n.kids.length, c8⟩)) (.slice ax (putR H (n.id, n.kind, n.tag, n.text, ⟨a5, n.cls.length, c5⟩, ⟨a6, n.att.length, c6⟩, ⟨aovk, (n.sty.filter (fun x => !decide (x.1 = name))).length, cvk⟩, n.par, ⟨a8, n.kids.length, c8⟩)).length cx)) (by simp))
      have g2 := OwT.rd (hg (OwT 103 (n.sty.filter (fun x => !decide (x.1 = name))) (.slice aovk (n.sty.filter (fun x => !decide (x.1 = name))).length cvk)) (by simp))
      have g3 := rdH.rd (Rd5R.stays D H ao c) (hg (rdH (Rd5R D H ao c)) (by simp))
      obtain ⟨s1, s2, s3, s4⟩ := four5 (fnd_at g3 hn hxn)
      exact ⟨g1, RowsR.put (n := { n with sty := n.sty.filter (fun x => !decide (x.1 = name)) }) g3.2 ⟨a5, c5, a6, c6, aovk, cvk, a8, c8, rfl, s1, s2, g2, s4⟩⟩
end
end Go.Proofs.YtgklceoodpocaaaGreatDoor
namespace Go.Proofs.YtgklceoodpocaaaGreatDoor
open Go.RowKit
set_option maxRecDepth 100000
attribute [local irreducible] Go.Code.wpIn Go.wpListIn Go.Calls Gives Go.Exit.then Go.Exit.inBlock Done ObxE
section
variable {B : Bs} {w : World} {L : List HP} {D : DomP} {K : Nat} {r0 : Value}
set_option maxHeartbeats 8000000 in
theorem rset5_6 (id : Int) (name v : ByteArray) (num : Int) (hnl : name.size ≤ 1000) (hW : WfD D) (hb : Bnd K D) (hK : K ≤ 800) (hS : St B (refO D r0 :: L) w) :
  Calls Tryz.prog 28 #[r0, .int .i64 6, .int .i64 id, .string name, .string v, .int .i64 num] w (Ret fun q w' => ∃ r, q = .tuple #[r, .int .i64 (setP D 6 id name v num).2] ∧ St B (refO (setP D 6 id name v num).1 r :: L) w') := by
 obtain ⟨H, ao, c, rfl, hS1⟩ := hS.refO .here
 clear hS
 have hS := hS1
 clear hS1
 have hRd := hS.rdr .here
 have hHl := hRd.2.len
 have hlen := hb.len
 have hret : ∀ {w : World} {X : List HP}, Sub (rdH (Rd5R D H ao c) :: L) X → St B X w → St B (refO D (rdV D H.length ao c) :: L) w := fun hs h => refO.of (h.sub hs)
 have hRn := hRd.2
 clear hRd
 refine enter Tryz.func28 rfl Tryz.ntmps28 rfl (fun a hk => ?_)
 refine wpIn_seq ?_;refine wpIn_region_lit ?_
 refine st_box hk hS ?_;clear hk hS a;intro w b6 hS a hk
 refine st_alloc hk hS ?_;clear hk hS a;intro w b12 hS a hk
 (repeat' (first|((first|refine wx1 ?_|refine wx2 ?_ ?_<;>intro hp|refine s_end hk ?_)<;>(clear hk a;intro a hk))|((first|refine wx3 ?_;intro w b|refine wx4 ?_;intro w|refine wx5 ?_;intro w v);clear hk hS a;intro hS a hk)|refine wx0 ?_|fail))
 refine sg hk (g_callO hk (hf := by kernel_rfl) (hc := rfind5_any D.most D.next H _ id _ (hS.rdr (D := D) (H := H) (ao := ao) (c := c) atx).1 (by omega)) (h := ?_));clear hk a;rintro _ w ⟨rfl, hS1⟩ a hk;replace hS := hS.call0 hS1;clear hS1
 cases hn : D.f id with
 | none =>
  have e : setP D 6 id name v num = (D, 11) := by unfold setP;rw [hn]
  rw [e]
  rw [hRn.non hn] at hk
  simp only [Option.getD_none, Option.isSome_none] at hk
  (repeat' (first|((first|refine wx1 ?_|refine wx2 ?_ ?_<;>intro hp|refine s_end hk ?_)<;>(clear hk a;intro a hk))|((first|refine wx3 ?_;intro w b|refine wx4 ?_;intro w|refine wx5 ?_;intro w v);clear hk hS a;intro hS a hk)|refine wx0 ?_|fail))
  exact done2R hk rfl (.str hS (hT := aT rfl) (hs := zT rfl)) (.tmp rfl) (h := ⟨_, rfl, hret (.cons atx sbx) hS⟩)
 | some n =>
  obtain ⟨x, hxn, hrn⟩ := hRn.fnd hn
  obtain ⟨a5, c5, a6, c6, a7, c7, a8, c8, rfl, -⟩ := hrn
  rw [hxn] at hk
  simp only [Option.getD_some, Option.isSome_some] at hk
  have hnb := hb.get hn
  have b1 := hnb.cls
  have b2 := hnb.att
  have b3 := hnb.sty
  by_cases h0 : id = 0
  ·have ho : ownP D id 2 name = 1 := by unfold ownP;rw [hn];simp only;rw [if_pos h0]
   rw [setP_no (kind := 6) (show ownP D id (kndC 6) name ≠ 0 by show ownP D id 2 name ≠ 0;omega), show ownP D id (kndC 6) name = 1 from ho]
   (repeat' (first|((first|refine wx1 ?_|refine wx2 ?_ ?_<;>intro hp|refine s_end hk ?_)<;>(clear hk a;intro a hk))|((first|refine wx3 ?_;intro w b|refine wx4 ?_;intro w|refine wx5 ?_;intro w v);clear hk hS a;intro hS a hk)|refine wx0 ?_|fail))
   exact done2R hk rfl (.str hS (hT := aT rfl) (hs := zT rfl)) (.tmp rfl) (h := ⟨_, rfl, hret (.cons atx sbx) hS⟩)
  ·rcases hW.wf.knd id n hn with hkd | hkd
   ·have ho : ownP D id 2 name = 14 := by unfold ownP;rw [hn];simp only;rw [if_neg h0, if_pos (show n.kind ≠ 2 by omega)]
    rw [setP_no (kind := 6) (show ownP D id (kndC 6) name ≠ 0 by show ownP D id 2 name ≠ 0;omega), show ownP D id (kndC 6) name = 14 from ho]
    (repeat' (first|((first|refine wx1 ?_|refine wx2 ?_ ?_<;>intro hp|refine s_end hk ?_)<;>(clear hk a;intro a hk))|((first|refine wx3 ?_;intro w b|refine wx4 ?_;intro w|refine wx5 ?_;intro w v);clear hk hS a;intro hS a hk)|refine wx0 ?_|fail))
    exact done2R hk rfl (.str hS (hT := aT rfl) (hs := zT rfl)) (.tmp rfl) (h := ⟨_, rfl, hret (.cons atx sbx) hS⟩)
   ·(repeat' (first|((first|refine wx1 ?_|refine wx2 ?_ ?_<;>intro hp|refine s_end hk ?_)<;>(clear hk a;intro a hk))|((first|refine wx3 ?_;intro w b|refine wx4 ?_;intro w|refine wx5 ?_;intro w v);clear hk hS a;intro hS a hk)|refine wx0 ?_|fail))
    rename Nat => b14
    refine sg hk (g_callO hk (hf := by kernel_rfl) (hc := rname_any name hnl _) (h := ?_));clear hk a;rintro _ w ⟨rfl, hS1⟩ a hk;replace hS := hS.call0 hS1;clear hS1
    cases hnm : nameS name with
    | false =>
     have ho : ownP D id 2 name = 2 := by unfold ownP;rw [hn];simp only;rw [if_neg h0, if_neg (show ¬ (n.kind ≠ 2) from fun h => h hkd), if_pos (by first | exact ⟨rfl, hnm⟩ | exact ⟨trivial, hnm⟩)]
     rw [setP_no (kind := 6) (show ownP D id (kndC 6) name ≠ 0 by show ownP D id 2 name ≠ 0;omega), show ownP D id (kndC 6) name = 2 from ho]
     rw [hnm] at hk
     (repeat' (first|((first|refine wx1 ?_|refine wx2 ?_ ?_<;>intro hp|refine s_end hk ?_)<;>(clear hk a;intro a hk))|((first|refine wx3 ?_;intro w b|refine wx4 ?_;intro w|refine wx5 ?_;intro w v);clear hk hS a;intro hS a hk)|refine wx0 ?_|fail))
     exact done2R hk rfl (.str hS (hT := aT rfl) (hs := zT rfl)) (.tmp rfl) (h := ⟨_, rfl, hret (.cons atx sbx) hS⟩)
    | true =>
     have ho : ownP D id (kndC 6) name = 0 := by show ownP D id 2 name = 0;exact (by unfold ownP;rw [hn];simp only;rw [if_neg h0, if_neg (show ¬ (n.kind ≠ 2) from fun h => h hkd), if_neg (fun h => by rw [hnm] at h;cases h.2)])
     rw [hnm] at hk
     (repeat' (first|((first|refine wx1 ?_|refine wx2 ?_ ?_<;>intro hp|refine s_end hk ?_)<;>(clear hk a;intro a hk))|((first|refine wx3 ?_;intro w b|refine wx4 ?_;intro w|refine wx5 ?_;intro w v);clear hk hS a;intro hS a hk)|refine wx0 ?_|fail))
     refine sg hk (g_callO hk (hf := by kernel_rfl) (hc := has03_any n.cls name _ _ (four5 (fnd_at (hS.rdr (D := D) (H := H) (ao := ao) (c := c) atx) hn hxn)).1 (by omega)) (h := ?_));clear hk a;rintro _ w ⟨rfl, hS1⟩ a hk;replace hS := hS.call0 hS1;clear hS1
     by_cases hm : name ∈ n.cls
     ·simp only [hm, decide_true] at hk
      rw [setP_non (kind := 6) hn ho (by simp [chgP, hm])]
      (repeat' (first|((first|refine wx1 ?_|refine wx2 ?_ ?_<;>intro hp|refine s_end hk ?_)<;>(clear hk a;intro a hk))|((first|refine wx3 ?_;intro w b|refine wx4 ?_;intro w|refine wx5 ?_;intro w v);clear hk hS a;intro hS a hk)|refine wx0 ?_|fail))
      exact done2R hk rfl (.str hS (hT := aT rfl) (hs := zT rfl)) (.tmp rfl) (h := ⟨_, rfl, hret (.cons atx sbx) hS⟩)
     ·simp only [hm, decide_false] at hk
      rw [setP_some (kind := 6) (n' := { n with cls := n.cls ++ [name] }) hn ho (by simp [chgP, hm])]
      (repeat' (first|((first|refine wx1 ?_|refine wx2 ?_ ?_<;>intro hp|refine s_end hk ?_)<;>(clear hk a;intro a hk))|((first|refine wx3 ?_;intro w b|refine wx4 ?_;intro w|refine wx5 ?_;intro w v);clear hk hS a;intro hS a hk)|refine wx0 ?_|fail))
      refine sg hk (g_bs0 ByteArray hS ?_ (hT := eT rfl) (hE := zT rfl));clear hk hS a;intro w v143 hS a hk
      refine sg hk (g_field hk ?_ (fT rfl));clear hk a;intro a hk
      refine sg hk (g_own1 hk hS ?_ (aT rfl));clear hk a;intro a hk
      refine sg hk (g_appT (xs := ([] : List ByteArray)) (ys := n.cls) hk hS ?_ (hT := eT rfl) (hTx := eT rfl) (hE := zT rfl) (hz := oT rfl) (hzs := rfl) (hs := (four5 (fnd_at (hS.rdr (D := D) (H := H) (ao := ao) (c := c) atx) hn hxn)).1) (hby := bT rfl) (hbytes := by simp only [List.length_nil];omega) (h63 := by simp only [maxLen, List.length_nil];omega));clear hk hS a;intro w v146 hS a hk
      rw [List.nil_append] at hS
      (repeat' (first|((first|refine wx1 ?_|refine wx2 ?_ ?_<;>intro hp|refine s_end hk ?_)<;>(clear hk a;intro a hk))|((first|refine wx3 ?_;intro w b|refine wx4 ?_;intro w|refine wx5 ?_;intro w v);clear hk hS a;intro hS a hk)|refine wx0 ?_|fail))
      rename Value => vk
      obtain ⟨aovk, cvk, hshp, _⟩ := (OwT.rd (hS.rd (A := OwT 9 _ vk) atx)).shape;subst hshp
      (repeat' (first|((first|refine wx1 ?_|refine wx2 ?_ ?_<;>intro hp|refine s_end hk ?_)<;>(clear hk a;intro a hk))|((first|refine wx3 ?_;intro w b|refine wx4 ?_;intro w|refine wx5 ?_;intro w v);clear hk hS a;intro hS a hk)|refine wx0 ?_|fail))
      refine sg hk (g_callO hk (hf := by kernel_rfl) (hc := rputO_any D.most D.next H _ (n.id, n.kind, n.tag, n.text, ⟨aovk, (n.cls ++ [name]).length, cvk⟩, ⟨a6, n.att.length, c6⟩, ⟨a7, n.sty.length, c7⟩, n.par, ⟨a8, n.kids.length, c8⟩) _ (hS.rdr (D := D) (H := H) (ao := ao) (c := c) atx).1 (by omega)) (h := ?_));clear hk a;rintro vp w hS1 a hk;replace hS := hS.call hS1;clear hS1
      rw [List.cons_append, List.nil_append] at hS
      obtain ⟨ax, cx, rfl, hS1⟩ := hS.putO (r := vp) atx
      clear hS
      have hS := hS1
      clear hS1
      (repeat' (first|((first|refine wx1 ?_|refine wx2 ?_ ?_<;>intro hp|refine s_end hk ?_)<;>(clear hk a;intro a hk))|((first|refine wx3 ?_;intro w b|refine wx4 ?_;intro w|refine wx5 ?_;intro w v);clear hk hS a;intro hS a hk)|refine wx0 ?_|fail))
      refine done2R hk rfl (.str hS (hT := aT rfl) (hs := zT rfl)) (.tmp rfl) (h := ⟨_, rfl, ?_⟩)
      refine refO.of (L := L) (D := { D with l := putP D.l { n with cls := n.cls ++ [name] } }) (H := putR H (n.id, n.kind, n.tag, n.text, ⟨aovk, (n.cls ++ [name]).length, cvk⟩, ⟨a6, n.att.length, c6⟩, ⟨a7, n.sty.length, c7⟩, n.par, ⟨a8, n.kids.length, c8⟩)) (ao := ax) (c := cx) (rdH.of (L := L) (L1 := [OwT 73 (putR H (n.id, n.kind, n.tag, n.text, ⟨aovk, (n.cls ++ [name]).length, cvk⟩, ⟨a6, n.att.length, c6⟩, ⟨a7, n.sty.length, c7⟩, n.par, ⟨a8, n.kids.length, c8⟩)) (.slice ax (putR H (n.id, n.kind, n.tag, n.text, ⟨aovk, (n.cls ++ [name]).length, cvk⟩, ⟨a6, n.att.length, c6⟩, ⟨a7, n.sty.length, c7⟩, n.par, ⟨a8, n.kids.length, c8⟩)).length cx), OwT 9 (n.cls ++ [name]) (.slice aovk (n.cls ++ [name]).length cvk), rdH (Rd5R D H ao c)]) (hS.sub (.cons atx (.cons atx (.cons atx sbx)))) fun g hg => ?_)
      have g1 := OwT.rd (hg (OwT 73 (putR H (n.id, n.kind, n.tag, n.text, ⟨aovk, (n.cls ++ [name]).length, cvk⟩, ⟨a6, n.att.length, c6⟩, ⟨a7, n.sty.length, c7⟩, n.par, ⟨a8, n.kids.length, c8⟩)) (.slice ax (putR H (n.id, n.kind, n.tag, n.text, ⟨aovk, (n.cls ++ [name]).length, cvk⟩, ⟨a6, n.att.length, c6⟩, ⟨a7, n.sty.length, c7⟩, n.par, ⟨a8, n.kids.length, c8⟩)).length cx)) (by simp))
      have g2 := OwT.rd (hg (OwT 9 (n.cls ++ [name]) (.slice aovk (n.cls ++ [name]).length cvk)) (by simp))
      have g3 := rdH.rd (Rd5R.stays D H ao c) (hg (rdH (Rd5R D H ao c)) (by simp))
      obtain ⟨s1, s2, s3, s4⟩ := four5 (fnd_at g3 hn hxn)
      exact ⟨g1, RowsR.put (n := { n with cls := n.cls ++ [name] }) g3.2 ⟨aovk, cvk, a6, c6, a7, c7, a8, c8, rfl, g2, s2, s3, s4⟩⟩
end
end Go.Proofs.YtgklceoodpocaaaGreatDoor
namespace Go.Proofs.YtgklceoodpocaaaGreatDoor
open Go.RowKit
set_option maxRecDepth 100000
attribute [local irreducible] Go.Code.wpIn Go.wpListIn Go.Calls Gives Go.Exit.then Go.Exit.inBlock Done ObxE
section
variable {B : Bs} {w : World} {L : List HP} {D : DomP} {K : Nat} {r0 : Value}
set_option maxHeartbeats 8000000 in
theorem rset5_7 (id : Int) (name v : ByteArray) (num : Int) (hnl : name.size ≤ 1000) (hW : WfD D) (hb : Bnd K D) (hK : K ≤ 800) (hS : St B (refO D r0 :: L) w) :
  Calls Tryz.prog 28 #[r0, .int .i64 7, .int .i64 id, .string name, .string v, .int .i64 num] w (Ret fun q w' => ∃ r, q = .tuple #[r, .int .i64 (setP D 7 id name v num).2] ∧ St B (refO (setP D 7 id name v num).1 r :: L) w') := by
 obtain ⟨H, ao, c, rfl, hS1⟩ := hS.refO .here
 clear hS
 have hS := hS1
 clear hS1
 have hRd := hS.rdr .here
 have hHl := hRd.2.len
 have hlen := hb.len
 have hret : ∀ {w : World} {X : List HP}, Sub (rdH (Rd5R D H ao c) :: L) X → St B X w → St B (refO D (rdV D H.length ao c) :: L) w := fun hs h => refO.of (h.sub hs)
 have hRn := hRd.2
 clear hRd
 refine enter Tryz.func28 rfl Tryz.ntmps28 rfl (fun a hk => ?_)
 refine wpIn_seq ?_;refine wpIn_region_lit ?_
 refine st_box hk hS ?_;clear hk hS a;intro w b6 hS a hk
 refine st_alloc hk hS ?_;clear hk hS a;intro w b12 hS a hk
 (repeat' (first|((first|refine wx1 ?_|refine wx2 ?_ ?_<;>intro hp|refine s_end hk ?_)<;>(clear hk a;intro a hk))|((first|refine wx3 ?_;intro w b|refine wx4 ?_;intro w|refine wx5 ?_;intro w v);clear hk hS a;intro hS a hk)|refine wx0 ?_|fail))
 refine sg hk (g_callO hk (hf := by kernel_rfl) (hc := rfind5_any D.most D.next H _ id _ (hS.rdr (D := D) (H := H) (ao := ao) (c := c) atx).1 (by omega)) (h := ?_));clear hk a;rintro _ w ⟨rfl, hS1⟩ a hk;replace hS := hS.call0 hS1;clear hS1
 cases hn : D.f id with
 | none =>
  have e : setP D 7 id name v num = (D, 11) := by unfold setP;rw [hn]
  rw [e]
  rw [hRn.non hn] at hk
  simp only [Option.getD_none, Option.isSome_none] at hk
  (repeat' (first|((first|refine wx1 ?_|refine wx2 ?_ ?_<;>intro hp|refine s_end hk ?_)<;>(clear hk a;intro a hk))|((first|refine wx3 ?_;intro w b|refine wx4 ?_;intro w|refine wx5 ?_;intro w v);clear hk hS a;intro hS a hk)|refine wx0 ?_|fail))
  exact done2R hk rfl (.str hS (hT := aT rfl) (hs := zT rfl)) (.tmp rfl) (h := ⟨_, rfl, hret (.cons atx sbx) hS⟩)
 | some n =>
  obtain ⟨x, hxn, hrn⟩ := hRn.fnd hn
  obtain ⟨a5, c5, a6, c6, a7, c7, a8, c8, rfl, -⟩ := hrn
  rw [hxn] at hk
  simp only [Option.getD_some, Option.isSome_some] at hk
  have hnb := hb.get hn
  have b1 := hnb.cls
  have b2 := hnb.att
  have b3 := hnb.sty
  by_cases h0 : id = 0
  ·have ho : ownP D id 2 name = 1 := by unfold ownP;rw [hn];simp only;rw [if_pos h0]
   rw [setP_no (kind := 7) (show ownP D id (kndC 7) name ≠ 0 by show ownP D id 2 name ≠ 0;omega), show ownP D id (kndC 7) name = 1 from ho]
   (repeat' (first|((first|refine wx1 ?_|refine wx2 ?_ ?_<;>intro hp|refine s_end hk ?_)<;>(clear hk a;intro a hk))|((first|refine wx3 ?_;intro w b|refine wx4 ?_;intro w|refine wx5 ?_;intro w v);clear hk hS a;intro hS a hk)|refine wx0 ?_|fail))
   exact done2R hk rfl (.str hS (hT := aT rfl) (hs := zT rfl)) (.tmp rfl) (h := ⟨_, rfl, hret (.cons atx sbx) hS⟩)
  ·rcases hW.wf.knd id n hn with hkd | hkd
   ·have ho : ownP D id 2 name = 14 := by unfold ownP;rw [hn];simp only;rw [if_neg h0, if_pos (show n.kind ≠ 2 by omega)]
    rw [setP_no (kind := 7) (show ownP D id (kndC 7) name ≠ 0 by show ownP D id 2 name ≠ 0;omega), show ownP D id (kndC 7) name = 14 from ho]
    (repeat' (first|((first|refine wx1 ?_|refine wx2 ?_ ?_<;>intro hp|refine s_end hk ?_)<;>(clear hk a;intro a hk))|((first|refine wx3 ?_;intro w b|refine wx4 ?_;intro w|refine wx5 ?_;intro w v);clear hk hS a;intro hS a hk)|refine wx0 ?_|fail))
    exact done2R hk rfl (.str hS (hT := aT rfl) (hs := zT rfl)) (.tmp rfl) (h := ⟨_, rfl, hret (.cons atx sbx) hS⟩)
   ·(repeat' (first|((first|refine wx1 ?_|refine wx2 ?_ ?_<;>intro hp|refine s_end hk ?_)<;>(clear hk a;intro a hk))|((first|refine wx3 ?_;intro w b|refine wx4 ?_;intro w|refine wx5 ?_;intro w v);clear hk hS a;intro hS a hk)|refine wx0 ?_|fail))
    rename Nat => b14
    refine sg hk (g_callO hk (hf := by kernel_rfl) (hc := rname_any name hnl _) (h := ?_));clear hk a;rintro _ w ⟨rfl, hS1⟩ a hk;replace hS := hS.call0 hS1;clear hS1
    cases hnm : nameS name with
    | false =>
     have ho : ownP D id 2 name = 2 := by unfold ownP;rw [hn];simp only;rw [if_neg h0, if_neg (show ¬ (n.kind ≠ 2) from fun h => h hkd), if_pos (by first | exact ⟨rfl, hnm⟩ | exact ⟨trivial, hnm⟩)]
     rw [setP_no (kind := 7) (show ownP D id (kndC 7) name ≠ 0 by show ownP D id 2 name ≠ 0;omega), show ownP D id (kndC 7) name = 2 from ho]
     rw [hnm] at hk
     (repeat' (first|((first|refine wx1 ?_|refine wx2 ?_ ?_<;>intro hp|refine s_end hk ?_)<;>(clear hk a;intro a hk))|((first|refine wx3 ?_;intro w b|refine wx4 ?_;intro w|refine wx5 ?_;intro w v);clear hk hS a;intro hS a hk)|refine wx0 ?_|fail))
     exact done2R hk rfl (.str hS (hT := aT rfl) (hs := zT rfl)) (.tmp rfl) (h := ⟨_, rfl, hret (.cons atx sbx) hS⟩)
    | true =>
     have ho : ownP D id (kndC 7) name = 0 := by show ownP D id 2 name = 0;exact (by unfold ownP;rw [hn];simp only;rw [if_neg h0, if_neg (show ¬ (n.kind ≠ 2) from fun h => h hkd), if_neg (fun h => by rw [hnm] at h;cases h.2)])
     rw [hnm] at hk
     (repeat' (first|((first|refine wx1 ?_|refine wx2 ?_ ?_<;>intro hp|refine s_end hk ?_)<;>(clear hk a;intro a hk))|((first|refine wx3 ?_;intro w b|refine wx4 ?_;intro w|refine wx5 ?_;intro w v);clear hk hS a;intro hS a hk)|refine wx0 ?_|fail))
     refine sg hk (g_callO hk (hf := by kernel_rfl) (hc := has03_any n.cls name _ _ (four5 (fnd_at (hS.rdr (D := D) (H := H) (ao := ao) (c := c) atx) hn hxn)).1 (by omega)) (h := ?_));clear hk a;rintro _ w ⟨rfl, hS1⟩ a hk;replace hS := hS.call0 hS1;clear hS1
     by_cases hm : name ∈ n.cls
     ·simp only [hm, decide_true] at hk
      rw [setP_some (kind := 7) (n' := { n with cls := n.cls.filter (fun x => !decide (x = name)) }) hn ho (by simp [chgP, hm])]
      (repeat' (first|((first|refine wx1 ?_|refine wx2 ?_ ?_<;>intro hp|refine s_end hk ?_)<;>(clear hk a;intro a hk))|((first|refine wx3 ?_;intro w b|refine wx4 ?_;intro w|refine wx5 ?_;intro w v);clear hk hS a;intro hS a hk)|refine wx0 ?_|fail))
      refine sg hk (g_callO hk (hf := by kernel_rfl) (hc := rdrop03_any n.cls name _ _ (four5 (fnd_at (hS.rdr (D := D) (H := H) (ao := ao) (c := c) atx) hn hxn)).1 (by omega)) (h := ?_));clear hk a;rintro vk w hS1 a hk;replace hS := hS.call hS1;clear hS1
      rw [List.cons_append, List.nil_append] at hS
      obtain ⟨aovk, cvk, hshp, _⟩ := (OwT.rd (hS.rd (A := OwT 9 _ vk) atx)).shape;subst hshp
      (repeat' (first|((first|refine wx1 ?_|refine wx2 ?_ ?_<;>intro hp|refine s_end hk ?_)<;>(clear hk a;intro a hk))|((first|refine wx3 ?_;intro w b|refine wx4 ?_;intro w|refine wx5 ?_;intro w v);clear hk hS a;intro hS a hk)|refine wx0 ?_|fail))
      refine sg hk (g_callO hk (hf := by kernel_rfl) (hc := rputO_any D.most D.next H _ (n.id, n.kind, n.tag, n.text, ⟨aovk, (n.cls.filter (fun x => !decide (x = name))).length, cvk⟩, ⟨a6, n.att.length, c6⟩, ⟨a7, n.sty.length, c7⟩, n.par, ⟨a8, n.kids.length, c8⟩) _ (hS.rdr (D := D) (H := H) (ao := ao) (c := c) atx).1 (by omega)) (h := ?_));clear hk a;rintro vp w hS1 a hk;replace hS := hS.call hS1;clear hS1
      rw [List.cons_append, List.nil_append] at hS
      obtain ⟨ax, cx, rfl, hS1⟩ := hS.putO (r := vp) atx
      clear hS
      have hS := hS1
      clear hS1
      (repeat' (first|((first|refine wx1 ?_|refine wx2 ?_ ?_<;>intro hp|refine s_end hk ?_)<;>(clear hk a;intro a hk))|((first|refine wx3 ?_;intro w b|refine wx4 ?_;intro w|refine wx5 ?_;intro w v);clear hk hS a;intro hS a hk)|refine wx0 ?_|fail))
      refine done2R hk rfl (.str hS (hT := aT rfl) (hs := zT rfl)) (.tmp rfl) (h := ⟨_, rfl, ?_⟩)
      refine refO.of (L := L) (D := { D with l := putP D.l { n with cls := n.cls.filter (fun x => !decide (x = name)) } }) (H := putR H (n.id, n.kind, n.tag, n.text, ⟨aovk, (n.cls.filter (fun x => !decide (x = name))).length, cvk⟩, ⟨a6, n.att.length, c6⟩, ⟨a7, n.sty.length, c7⟩, n.par, ⟨a8, n.kids.length, c8⟩)) (ao := ax) (c := cx) (rdH.of (L := L) (L1 := [OwT 73 (putR H (n.id, n.kind, n.tag, n.text, ⟨aovk, (n.cls.filter (fun x => !decide (x = name))).length, cvk⟩, ⟨a6, n.att.length, c6⟩, ⟨a7, n.sty.length, c7⟩, n.par, ⟨a8, n.kids.length, c8⟩)) (.slice ax (putR H (n.id, n.kind, n.tag, n.text, ⟨aovk, (n.cls.filter (fun x => !decide (x = name))).length, cvk⟩, ⟨a6, n.att.length, c6⟩, ⟨a7, n.sty.length, c7⟩, n.par, ⟨a8, n.kids.length, c8⟩)).length cx), OwT 9 (n.cls.filter (fun x => !decide (x = name))) (.slice aovk (n.cls.filter (fun x => !decide (x = name))).length cvk), rdH (Rd5R D H ao c)]) (hS.sub (.cons atx (.cons atx (.cons atx sbx)))) fun g hg => ?_)
      have g1 := OwT.rd (hg (OwT 73 (putR H (n.id, n.kind, n.tag, n.text, ⟨aovk, (n.cls.filter (fun x => !decide (x = name))).length, cvk⟩, ⟨a6, n.att.length, c6⟩, ⟨a7, n.sty.length, c7⟩, n.par, ⟨a8, n.kids.length, c8⟩)) (.slice ax (putR H (n.id, n.kind, n.tag, n.text, ⟨aovk, (n.cls.filter (fun x => !decide (x = name))).length, cvk⟩, ⟨a6, n.att.length, c6⟩, ⟨a7, n.sty.length, c7⟩, n.par, ⟨a8, n.kids.length, c8⟩)).length cx)) (by simp))
      have g2 := OwT.rd (hg (OwT 9 (n.cls.filter (fun x => !decide (x = name))) (.slice aovk (n.cls.filter (fun x => !decide (x = name))).length cvk)) (by simp))
      have g3 := rdH.rd (Rd5R.stays D H ao c) (hg (rdH (Rd5R D H ao c)) (by simp))
      obtain ⟨s1, s2, s3, s4⟩ := four5 (fnd_at g3 hn hxn)
      exact ⟨g1, RowsR.put (n := { n with cls := n.cls.filter (fun x => !decide (x = name)) }) g3.2 ⟨aovk, cvk, a6, c6, a7, c7, a8, c8, rfl, g2, s2, s3, s4⟩⟩
     ·simp only [hm, decide_false] at hk
      rw [setP_non (kind := 7) hn ho (by simp [chgP, hm])]
      (repeat' (first|((first|refine wx1 ?_|refine wx2 ?_ ?_<;>intro hp|refine s_end hk ?_)<;>(clear hk a;intro a hk))|((first|refine wx3 ?_;intro w b|refine wx4 ?_;intro w|refine wx5 ?_;intro w v);clear hk hS a;intro hS a hk)|refine wx0 ?_|fail))
      exact done2R hk rfl (.str hS (hT := aT rfl) (hs := zT rfl)) (.tmp rfl) (h := ⟨_, rfl, hret (.cons atx sbx) hS⟩)
end
end Go.Proofs.YtgklceoodpocaaaGreatDoor
namespace Go.Proofs.YtgklceoodpocaaaGreatDoor
open Go.RowKit
set_option maxRecDepth 100000
attribute [local irreducible] Go.Code.wpIn Go.wpListIn Go.Calls Gives Go.Exit.then Go.Exit.inBlock Done ObxE
abbrev TabW (w : World) : Prop := Lib.TabIs Tryz.prog w "internal/strconv.uint64pow10" .u64 Lib.pow10Tab
theorem TabW.mono {w w' : World} (h : TabW w) (hb : Below w.heap.size w w') : TabW w' := Lib.tabBelow_of_tabIs h w' hb
def itoS (n : Int) : ByteArray := ⟨(Lib.itoa n).toArray⟩
theorem itoa_any (n : Int) (h0 : -9223372036854775808 ≤ n) (h1 : n ≤ 9223372036854775807) (w0 : World) (ht : TabW w0) :
  Calls Tryz.prog 37 #[.int .i64 n] w0 (Ret fun v w => v = .string (itoS n) ∧ St w0 [] w) :=
 Calls.mono (Tryz.strconv_Itoa n h0 h1 w0 ht) (fun _ w' ⟨he, k, os, hw⟩ => ⟨_, he, rfl, by
  subst hw
  exact (St.refl w0).new (As := []) (Lib.below_grow _ w0 (Nat.le_refl _) k os) ⟨fun _ => False, fun _ h => h.elim, trivial⟩⟩)
theorem laid_tail {P : Program} {W : World} {x : String × DataW Unit} {rest : List (String × DataW Unit)} (h : laidMet P (x :: rest) W) : laidMet P rest W := by
 obtain ⟨ps, ⟨g, t, cs, fuel, p, q, h1, h2, h3, h4, hq, he⟩, hn, h6⟩ := h
 subst he
 exact ⟨q, hq, (List.nodup_append.1 hn).2.1, fun b off hm => h6 b off (List.mem_append_right _ hm)⟩
end Go.Proofs.YtgklceoodpocaaaGreatDoor
namespace Go.Proofs.YtgklceoodpocaaaGreatDoor
open Go.RowKit
set_option maxRecDepth 100000
attribute [local irreducible] Go.Code.wpIn Go.wpListIn Go.Calls Gives Go.Exit.then Go.Exit.inBlock Done ObxE
def bldIn (T e : TypeId) (B N b : Nat) (l : List UInt8) (w : World) : Prop :=
 B ≤ b ∧ b < N ∧ N ≤ w.heap.size ∧ ∃ p v, (p = .pointer none ∨ p = .pointer (some ⟨b, 0, none⟩)) ∧ w.heap[b]? = some (.cells #[p, v] T (0, 0)) ∧ w.ownsRow B e 1 v (Lib.byteCells l).length (Lib.byteCells l) ∧ v.ownBlock ≠ some b ∧ ∀ g, v.ownBlock = some g → g < N
theorem bldIn.same {T e : TypeId} {B N b : Nat} {l : List UInt8} {w w' : World} (h : bldIn T e B N b l w) (hf : ∀ k, B ≤ k ∧ k < N → w'.heap[k]? = w.heap[k]?) : bldIn T e B N b l w' := by
 obtain ⟨h1, h2, h3, p, v, hp, hb, ho, hn, hg⟩ := h
 have hN : N ≤ w'.heap.size := by
  have hk := hf (N - 1) ⟨by omega, by omega⟩
  rw [Array.getElem?_eq_getElem (by omega : N - 1 < w.heap.size)] at hk
  have := (Array.getElem?_eq_some_iff.1 hk).1
  omega
 refine ⟨h1, h2, hN, p, v, hp, by rw [hf b ⟨h1, h2⟩];exact hb, ⟨ho.1, ?_⟩, hn, hg⟩
 rcases ho.2 with hz | ⟨g, cap, cur, rfl, hBg, hgg, rest⟩
 ·exact .inl hz
 ·exact .inr ⟨g, cap, cur, rfl, hBg, by rw [hf g ⟨hBg, hg g rfl⟩];exact hgg, rest⟩
def blH (T e : TypeId) (b : Nat) (l : List UInt8) : HP where
 holds F w := ∃ B N, (∀ k, F k ↔ B ≤ k ∧ k < N) ∧ bldIn T e B N b l w
 stable := fun F w w' ⟨B, N, hF, h⟩ hs => ⟨B, N, hF, h.same fun k hk => hs k ((hF k).2 hk)⟩
 dom := fun F w k ⟨B, N, hF, h⟩ hk => by
  have := (hF k).1 hk
  obtain ⟨_, _, h3, _⟩ := h
  omega
theorem bldIn.is {T e : TypeId} {B N b : Nat} {l : List UInt8} {w : World} (h : bldIn T e B N b l w) : Lib.IsBuilder T e B b (Lib.byteCells l) w := by
 obtain ⟨h1, _, _, p, v, hp, hb, ho, hn, _⟩ := h
 rcases hp with rfl | rfl
 ·exact .inl ⟨h1, v, hb, ho, hn⟩
 ·exact .inr ⟨h1, v, hb, ho, hn⟩
theorem bldIn.of {T e : TypeId} {B b : Nat} {l : List UInt8} {w : World} (h : Lib.BuilderAt T e B b (.pointer (some ⟨b, 0, none⟩)) (Lib.byteCells l) w) : bldIn T e B w.heap.size b l w := by
 have hlt := h.lt
 obtain ⟨h1, v, hb, ho, hn⟩ := h
 refine ⟨h1, hlt, Nat.le_refl _, _, v, .inr rfl, hb, ho, hn, fun g hg => ?_⟩
 rcases ho.2 with ⟨rfl, _⟩ | ⟨g', cap, cur, rfl, _, hgg, _⟩
 ·cases hg
 ·simp only [Value.ownBlock, Option.some.injEq] at hg
  subst hg
  exact (Array.getElem?_eq_some_iff.1 hgg).1
theorem St.bld {w0 w : World} {T e : TypeId} {b : Nat} {l : List UInt8} {L L' : List HP} (hS : St w0 L w) (hat : At (blH T e b l) L L') : ∃ B, w0.heap.size ≤ B ∧ B ≤ w.heap.size ∧ Lib.IsBuilder T e B b (Lib.byteCells l) w := by
 obtain ⟨F, hF, hp⟩ := hS.own
 obtain ⟨F1, F2, h1, h2, h3, ⟨B, N, hFB, hb⟩, h5⟩ := hp.pull hat
 have h := hb
 obtain ⟨g1, g2, g3, _⟩ := h
 have hB := (hF B (h1 B ((hFB B).2 ⟨Nat.le_refl _, by omega⟩))).1.1
 exact ⟨B, hB, by omega, hb.is⟩
theorem St.bldOf {w0 w w' : World} {T e : TypeId} {B b : Nat} {l : List UInt8} {L : List HP} (hS : St w0 L w) (hB : w0.heap.size ≤ B) (hw : Below B w w') (h : Lib.BuilderAt T e B b (.pointer (some ⟨b, 0, none⟩)) (Lib.byteCells l) w') : St w0 [blH T e b l] w' := by
 have hbel : Below w0.heap.size w0 w' := hS.below.trans (hw.mono hB)
 refine ⟨hbel, Frz.of_below hbel, fun k => B ≤ k ∧ k < w'.heap.size, fun k hk => ⟨⟨Nat.le_trans hB hk.1, fun hl => ?_⟩, hk.2⟩, ⟨fun k => B ≤ k ∧ k < w'.heap.size, fun _ => False, fun _ h => h, fun _ h => h.elim, fun _ _ h => h, ⟨B, w'.heap.size, fun _ => Iff.rfl, bldIn.of h⟩, trivial⟩⟩
 have := hl.lt
 have := hk.1
 simp only at *
 omega
end Go.Proofs.YtgklceoodpocaaaGreatDoor
namespace Go.Proofs.YtgklceoodpocaaaGreatDoor
open Go.RowKit Go.Shelf
theorem bInfo : (Tryz.prog.info? 138).map (·.size) = some 2 := by kernel_rfl
theorem bLies : liesAt Tryz.prog Tryz.prog.depth 138 (2 / Tryz.prog.cellsOf 138) 0 138 1 = true := by kernel_rfl
set_option maxHeartbeats 1000000 in
set_option maxRecDepth 100000 in
theorem copyUsed (b : Nat) (w : World) (h0 : w.cell? ⟨b, 0, none⟩ = some (.pointer (some ⟨b, 0, none⟩))) :
  Calls Tryz.prog 110 #[.pointer (some ⟨b, 0, none⟩)] w fun e w' => e = .returned (.tuple #[]) ∧ w' = w := by
 obtain ⟨j, hj, _⟩ := Option.map_eq_some_iff.1 bInfo
 have mixed : Tryz.prog.follows .mixedOrders = true := by kernel_rfl
 have t72 := Tryz.underlying138;have a72 := Tryz.isAgg138;have z72 := Tryz.sizeOf138;have v72 := Tryz.zeroValue138;have u72 := run_underlying t72
 have t70 := Tryz.underlying135;have a70 := Tryz.isAgg135;have z70 := Tryz.sizeOf135;have v70 := Tryz.zeroValue135;have u70 := run_underlying t70
 have t4 := Tryz.underlying4;have a4 := Tryz.isAgg4;have z4 := Tryz.sizeOf4;have v4 := Tryz.zeroValue4;have u4 := run_underlying t4
 have t164 := Tryz.underlying179;have a164 := Tryz.isAgg179;have z164 := Tryz.sizeOf179;have v164 := Tryz.zeroValue179;have u164 := run_underlying t164
 go_enter Tryz.func110, Tryz.ntmps110
 go_wp2
 rw [Lib.run_neq_ptr_same w _ t70 hj]
 go_wp2
 go_end0
 exact ⟨rfl, rfl⟩
set_option maxHeartbeats 1000000 in
set_option maxRecDepth 100000 in
theorem copyFresh (b : Nat) (w : World) (h0 : w.cell? ⟨b, 0, none⟩ = some (.pointer none)) (hsh : w.shape? b = some (138, 2)) (hfz : w.frozen? ⟨b, 0, none⟩ = false) :
  Calls Tryz.prog 110 #[.pointer (some ⟨b, 0, none⟩)] w fun e w' => e = .returned (.tuple #[]) ∧ w' = w.setCell ⟨b, 0, none⟩ (.pointer (some ⟨b, 0, none⟩)) := by
 obtain ⟨j, hj, hjs⟩ := Option.map_eq_some_iff.1 bInfo
 have mixed : Tryz.prog.follows .mixedOrders = true := by kernel_rfl
 have t72 := Tryz.underlying138;have a72 := Tryz.isAgg138;have z72 := Tryz.sizeOf138;have v72 := Tryz.zeroValue138;have u72 := run_underlying t72
 have t70 := Tryz.underlying135;have a70 := Tryz.isAgg135;have z70 := Tryz.sizeOf135;have v70 := Tryz.zeroValue135;have u70 := run_underlying t70
 have t4 := Tryz.underlying4;have a4 := Tryz.isAgg4;have z4 := Tryz.sizeOf4;have v4 := Tryz.zeroValue4;have u4 := run_underlying t4
 have t164 := Tryz.underlying179;have a164 := Tryz.isAgg179;have z164 := Tryz.sizeOf179;have v164 := Tryz.zeroValue179;have u164 := run_underlying t164
 go_enter Tryz.func110, Tryz.ntmps110
 go_wp2
 rw [Lib.run_to_unsafe w ⟨b, 0, none⟩ t70 t164 hj (by rw [hjs];decide) hsh (Nat.zero_lt_succ 1)]
 simp only [Result.andThen]
 rw [Oper.upon_value]
 go_wp2
 rw [run_callFunc_extern Tryz.func130 (by kernel_rfl) (by kernel_rfl) (by kernel_rfl) (e := Extern.AbiNoEscape.same) (by kernel_rfl)]
 rw [Lib.run_noEscape]
 simp only [Result.andThen]
 rw [Oper.upon_value]
 go_wp2
 rw [Lib.run_from_unsafe w ⟨b, 0, none⟩ t164 t70 hj hsh bLies]
 simp only [Result.andThen]
 rw [Oper.upon_value]
 go_wp2
 go_end0
 exact ⟨rfl, rfl⟩
theorem copyCheck_bld (B b : Nat) (bs : List Value) (w : World) (h : Lib.IsBuilder 138 5 B b bs w) :
  Calls Tryz.prog 110 #[.pointer (some ⟨b, 0, none⟩)] w fun e w' => e = .returned (.tuple #[]) ∧ Lib.BuilderAt 138 5 B b (.pointer (some ⟨b, 0, none⟩)) bs w' ∧ Below B w w' := by
 rcases h with h | h
 ·refine (copyFresh b w h.cell0 h.shape h.frozen0).mono ?_
  rintro e w' ⟨he, rfl⟩
  exact ⟨he, h.used _, (Below.refl _ _).setCell (p := ⟨b, 0, none⟩) h.1 _⟩
 ·refine (copyUsed b w h.cell0).mono ?_
  rintro e w' ⟨he, rfl⟩
  exact ⟨he, h, Below.refl _ _⟩
set_option maxHeartbeats 1000000 in
set_option maxRecDepth 100000 in
theorem write_bld (B b : Nat) (bs : List Value) (s : ByteArray) (w : World) (h : Lib.IsBuilder 138 5 B b bs w) (hlen : bs.length + s.size ≤ 140737488355328) (hBw : B ≤ w.heap.size) :
  Calls Tryz.prog 76 #[.pointer (some ⟨b, 0, none⟩), .string s] w fun e w' => e = .returned (.tuple #[.int .i64 s.size, .nilIface]) ∧ (Lib.BuilderAt 138 5 B b (.pointer (some ⟨b, 0, none⟩)) (bs ++ Lib.strCells s) w' ∧ Below B w w') := by
 obtain ⟨i0, hi, hz0, hz1, hz2⟩ : ∃ i, Tryz.prog.info? 5 = some i ∧ i.zero = some (.int .u8 0) ∧ i.size = 1 ∧ i.bytes = 1 := by
  have h : (Tryz.prog.info? 5).map (fun i => (i.zero, i.size, i.bytes)) = some (some (.int .u8 0), 1, 1) := by kernel_rfl
  obtain ⟨i, hi, he⟩ := Option.map_eq_some_iff.1 h
  simp only [Prod.mk.injEq] at he
  exact ⟨i, hi, he.1, he.2.1, he.2.2⟩
 have mixed : Tryz.prog.follows .mixedOrders = true := by kernel_rfl
 have t72 := Tryz.underlying138;have a72 := Tryz.isAgg138;have z72 := Tryz.sizeOf138;have v72 := Tryz.zeroValue138;have u72 := run_underlying t72
 have t70 := Tryz.underlying135;have a70 := Tryz.isAgg135;have z70 := Tryz.sizeOf135;have v70 := Tryz.zeroValue135;have u70 := run_underlying t70
 have t4 := Tryz.underlying4;have a4 := Tryz.isAgg4;have z4 := Tryz.sizeOf4;have v4 := Tryz.zeroValue4;have u4 := run_underlying t4
 have t37 := Tryz.underlying136;have a37 := Tryz.isAgg136;have z37 := Tryz.sizeOf136;have v37 := Tryz.zeroValue136;have u37 := run_underlying t37
 have t3 := Tryz.underlying3;have a3 := Tryz.isAgg3;have z3 := Tryz.sizeOf3;have v3 := Tryz.zeroValue3;have u3 := run_underlying t3
 have t9 := Tryz.underlying9;have a9 := Tryz.isAgg9;have z9 := Tryz.sizeOf9;have v9 := Tryz.zeroValue9;have u9 := run_underlying t9
 have t5 := Tryz.underlying5;have a5 := Tryz.isAgg5;have z5 := Tryz.sizeOf5;have v5 := Tryz.zeroValue5;have u5 := run_underlying t5
 have e240 : ∀ args w, (callFunc 110 args).run Tryz.prog w = .ok (.enter 110 args) w := enters_of Tryz.func110 (by kernel_rfl) rfl
 go_enter Tryz.func76, Tryz.ntmps76
 go_wp2_with (go_at_fn 110;refine (copyCheck_bld B b bs _ h).mono ?_)
 rintro e w1 ⟨rfl, h1, hb1⟩
 have hlt : b < w1.heap.size := h1.lt
 obtain ⟨hB, v, hbk, hown, hne⟩ := h1
 have c0 : w1.cell? ⟨b, 0, none⟩ = some (.pointer (some ⟨b, 0, none⟩)) := by rw [Lib.cell_of_heap hbk];rfl
 have c1 : w1.cell? ⟨b, 1, none⟩ = some v := by rw [Lib.cell_of_heap hbk];rfl
 go_wp2_with (at_builtin;refine Lib.wpList_append_own_string _ rfl _ _ 136 9 rfl B 5 i0 t37 t9 hi hz0 hz1 hz2 _ _ _ rfl hown s rfl ?c3 ?c4 ?c5 ?_)
 case c3 => unfold maxLen;omega
 case c4 => omega
 case c5 => have := hb1.size;omega
 intro v' w2 hown' hgrow _
 have hb2 : w2.heap[b]? = some (.cells #[.pointer (some ⟨b, 0, none⟩), v] 138 (0, 0)) := by
  rw [hgrow.block b hlt (fun e => hne e.symm)]
  exact hbk
 have d0 : w2.cell? ⟨b, 0, none⟩ = some (.pointer (some ⟨b, 0, none⟩)) := by rw [Lib.cell_of_heap hb2];rfl
 have d1 : w2.cell? ⟨b, 1, none⟩ = some v := by rw [Lib.cell_of_heap hb2];rfl
 have f1 : w2.frozen? ⟨b, 1, none⟩ = false := Lib.frozen_of_heap hb2 1
 obtain ⟨ao, n', cap, rfl⟩ : ∃ ao n' cap, v' = .slice ao n' cap := by
  rcases hown'.2 with ⟨hv, _⟩ | ⟨g, cap, cur, hv, _⟩
  ·exact ⟨_, _, _, hv⟩
  ·exact ⟨_, _, _, hv⟩
 go_wp2
 go_ret2
 refine ⟨rfl, ?_, ?_⟩
 ·exact Lib.BuilderAt.put (T := 138) (e := 5) hB hb2 (bs' := bs ++ Lib.strCells s) (by simpa [Lib.strCells_length] using hown') (by decide)
 ·exact (hb1.grown hgrow (by have := hb1.size;omega) (fun k hk => (hown.lt k hk).1)).setCell (p := ⟨b, 1, none⟩) hB _
end Go.Proofs.YtgklceoodpocaaaGreatDoor
namespace Go.Proofs.YtgklceoodpocaaaGreatDoor
open Go.RowKit
set_option maxRecDepth 100000
attribute [local irreducible] Go.Code.wpIn Go.wpListIn Go.Calls Gives Go.Exit.then Go.Exit.inBlock Done ObxE
abbrev bldT : TypeId := 138
abbrev bldE : TypeId := 5
theorem writeB_any {w0 w : World} {b : Nat} {l : List UInt8} {L L' : List HP} (s : ByteArray) (hS : St w0 L w) (hlen : l.length + s.size ≤ 100000000000) (hat : At (blH bldT bldE b l) L L' := by (repeat (first | exact At.here | apply At.there))) :
  Calls Tryz.prog 76 #[.pointer (some ⟨b, 0, none⟩), .string s] w (Ret fun v w' => v = .tuple #[.int .i64 s.size, .nilIface] ∧ St w0 [blH bldT bldE b (l ++ s.data.toList)] w') := by
 obtain ⟨B, h1, h2, h3⟩ := hS.bld hat
 refine Calls.mono (write_bld B b _ s w h3 (by rw [Lib.byteCells_length];omega) h2) (fun e w' ⟨he, h4, h5⟩ => ⟨_, he, rfl, hS.bldOf h1 h5 ?_⟩)
 rw [Lib.byteCells_append, ← Lib.strCells_eq]
 exact h4
theorem below_nil {w0 w w' : World} {L : List HP} {B : Nat} (hS : St w0 L w) (hB : w0.heap.size ≤ B) (hw : Below B w w') : St w0 [] w' :=
 have hbel : Below w0.heap.size w0 w' := hS.below.trans (hw.mono hB)
 ⟨hbel, Frz.of_below hbel, fun _ => False, fun _ h => h.elim, trivial⟩
theorem stringB_any {w0 w : World} {b : Nat} {l : List UInt8} {L L' : List HP} (hS : St w0 L w) (hat : At (blH bldT bldE b l) L L' := by (repeat (first | exact At.here | apply At.there))) :
  Calls Tryz.prog 77 #[.pointer (some ⟨b, 0, none⟩)] w (Ret fun v w' => v = .string ⟨l.toArray⟩ ∧ St w0 [] w') := by
 obtain ⟨B, h1, h2, h3⟩ := hS.bld hat
 exact Calls.mono (Tryz.Builder_String_any B b l w h3 h2) (fun e w' ⟨he, h5⟩ => ⟨_, he, rfl, below_nil hS h1 h5⟩)
theorem growB_any {w0 w : World} {b n : Nat} {L L' : List HP} (hS : St w0 L w) (hn : n ≤ 281474976710656) (hat : At (pts b [.pointer none, .slice none 0 0] bldT) L L' := by (repeat (first | exact At.here | apply At.there))) :
  Calls Tryz.prog 75 #[.pointer (some ⟨b, 0, none⟩), .int .i64 (n : Int)] w (Ret fun v w' => v = .tuple #[] ∧ St w0 [blH bldT bldE b []] w') := by
 obtain ⟨F, hF, hp⟩ := hS.own
 obtain ⟨F1, F2, h1, h2, h3, ⟨hFb, hall, hb⟩, h5⟩ := hp.pull hat
 have hlt := (Array.getElem?_eq_some_iff.1 hb).1
 have hB := (hF b (h1 b hFb)).1.1
 exact Calls.mono (Tryz.Builder_Grow_fresh b b n w (Nat.le_refl _) hb (by omega) hn) (fun e w' ⟨he, h4, h6⟩ => ⟨_, he, rfl, hS.bldOf hB h6 h4⟩)
def joinT (r : List ByteArray) : List UInt8 := r.flatMap (fun y => 32 :: y.data.toList)
def joinL : List ByteArray → List UInt8
 | [] => []
 | x :: r => x.data.toList ++ joinT r
theorem joinT_snoc (r : List ByteArray) (y : ByteArray) : joinT (r ++ [y]) = joinT r ++ (32 :: y.data.toList) := by simp [joinT]
def sumS (l : List ByteArray) : Nat := l.foldl (fun n s => n + s.size) 0
theorem sumS_snoc (l : List ByteArray) (s : ByteArray) : sumS (l ++ [s]) = sumS l + s.size := by simp [sumS]
theorem sumS_take {l : List ByteArray} {X : Nat} (h : ∀ s ∈ l, s.size ≤ X) : ∀ i, i ≤ l.length → sumS (l.take i) ≤ X * i
 | 0, _ => by simp [sumS]
 | i + 1, hi => by
  have hx : l[i]? = some l[i] := List.getElem?_eq_getElem (by omega)
  rw [take_snoc hx, sumS_snoc]
  have h1 := sumS_take h i (by omega)
  have h2 := h l[i] (List.getElem_mem _)
  rw [Nat.mul_add];omega
theorem joinT_len {l : List ByteArray} {X : Nat} (h : ∀ s ∈ l, s.size ≤ X) : ∀ i, i ≤ l.length → (joinT (l.take i)).length ≤ (X + 1) * i
 | 0, _ => by simp [joinT]
 | i + 1, hi => by
  have hx : l[i]? = some l[i] := List.getElem?_eq_getElem (by omega)
  rw [take_snoc hx, joinT_snoc, List.length_append, List.length_cons]
  have h1 := joinT_len h i (by omega)
  have h2 := h l[i] (List.getElem_mem _)
  have h3 : l[i].data.toList.length = l[i].size := Array.length_toList
  rw [Nat.mul_add];omega
set_option maxHeartbeats 4000000 in
theorem join2_any (Z : Nat) (hZ : Z ≤ 1000000) (x0 x1 : ByteArray) (r : List ByteArray) (hl : r.length ≤ 10000) (hx : ∀ s ∈ x0 :: x1 :: r, s.size ≤ Z) (v : Value) (w0 : World) (hv : SlT (x0 :: x1 :: r) v w0) :
  Calls Tryz.prog 36 #[v, .string ⟨#[32]⟩] w0 (Ret fun v w => v = .string ⟨(joinL (x0 :: x1 :: r)).toArray⟩ ∧ St w0 [] w) := by
 generalize hX : x0 :: x1 :: r = X at *
 have hXl : X.length = r.length + 2 := by rw [← hX];simp
 have hX0 : X[0]? = some x0 := by rw [← hX];rfl
 have h32 : ByteArray.size ⟨#[32]⟩ = 1 := rfl
 refine enter Tryz.func36 rfl Tryz.ntmps36 rfl (fun a hk => ?_);have hS := St.refl w0
 (repeat' (first|((first|refine wx1 ?_|refine wx2 ?_ ?_<;>intro hp|refine s_end hk ?_)<;>(clear hk a;intro a hk))|((first|refine wx3 ?_;intro w b|refine wx4 ?_;intro w|refine wx5 ?_;intro w v);clear hk hS a;intro hS a hk)|refine wx0 ?_|fail))
 have hQ : ∃ Q : Int, IntKind.i64.wrap ((9223372036854775807 : Int).tdiv ((X.length : Int) - 1)) = Q ∧ 2 ≤ Q ∧ Q ≤ 9223372036854775807 := by
  have h1 : (9223372036854775807 : Int).tdiv ((X.length : Int) - 1) = 9223372036854775807 / ((X.length : Int) - 1) := Int.tdiv_eq_ediv_of_nonneg (by decide)
  have h2 : (2 : Int) ≤ 9223372036854775807 / ((X.length : Int) - 1) := Int.le_ediv_of_mul_le (by omega) (by omega)
  have h3 : (9223372036854775807 : Int) / ((X.length : Int) - 1) ≤ 9223372036854775807 := Int.ediv_le_self _ (by decide)
  exact ⟨_, rfl, by rw [h1, IntWalk.i64_in _ ⟨by omega, h3⟩];exact h2, by rw [h1, IntWalk.i64_in _ ⟨by omega, h3⟩];exact h3⟩
 obtain ⟨Q, hQ0, hQ1, hQ2⟩ := hQ
 refine sg hk (g_quo hk ?_ (hq := by omega));clear hk a;intro a hk
 rw [hQ0] at hk
 (repeat' (first|((first|refine wx1 ?_|refine wx2 ?_ ?_<;>intro hp|refine s_end hk ?_)<;>(clear hk a;intro a hk))|((first|refine wx3 ?_;intro w b|refine wx4 ?_;intro w|refine wx5 ?_;intro w v);clear hk hS a;intro hS a hk)|refine wx0 ?_|fail))
 refine sg hk (g_mul hk ?_ (hlo := by rw [h32];omega) (hhi := by rw [h32];omega));clear hk a;intro a hk
 rw [h32] at hk
 (repeat' (first|((first|refine wx1 ?_|refine wx2 ?_ ?_<;>intro hp|refine s_end hk ?_)<;>(clear hk a;intro a hk))|((first|refine wx3 ?_;intro w b|refine wx4 ?_;intro w|refine wx5 ?_;intro w v);clear hk hS a;intro hS a hk)|refine wx0 ?_|fail))
 have e5 : (0 + ((1 : Nat) : Int) * ((X.length : Int) - 1)) = ((X.length - 1 + sumS (X.take 0) : Nat) : Int) := by rw [List.take_zero];simp only [sumS, List.foldl_nil];omega
 rw [e5] at hk
 replace hk := Kn.kp [0, 1, 5, 39, 40, 41] hk
 refine wp_for X.length (fun i _ => [(5, .int .i64 ((X.length - 1 + sumS (X.take i) : Nat) : Int)), (41, .int .i64 (i : Int))]) (fun _ _ => []) (fun _ _ => True) () hk skx hS.sb trivial ?_
 clear hk hS a
 rintro i - a w hi hk hS -
 have hb := sumS_take hx i hi
 have hbm : Z * i ≤ 1000000 * 10002 := Nat.mul_le_mul hZ (by omega)
 by_cases hil : i < X.length
 ·obtain ⟨x, hxi⟩ : ∃ x, X[i]? = some x := ⟨_, List.getElem?_eq_getElem hil⟩
  have hxs := hx x (List.mem_of_getElem? hxi)
  have hst : sumS (X.take (i + 1)) = sumS (X.take i) + x.size := by rw [take_snoc hxi, sumS_snoc]
  (repeat' (first|((first|refine wx1 ?_|refine wx2 ?_ ?_<;>intro hp|refine s_end hk ?_)<;>(clear hk a;intro a hk))|((first|refine wx3 ?_;intro w b|refine wx4 ?_;intro w|refine wx5 ?_;intro w v);clear hk hS a;intro hS a hk)|refine wx0 ?_|fail))
  have e6 : ((X.length - 1 + sumS (X.take i) : Nat) : Int) + (x.size : Int) = ((X.length - 1 + sumS (X.take (i + 1)) : Nat) : Int) := by rw [hst];omega
  rw [e6] at hk
  exact ⟨hil, (), hk.sd, hS.sb, trivial⟩
 ·have hii : i = X.length := by omega
  subst hii
  rw [List.take_length] at hk hb
  (repeat' (first|((first|refine wx1 ?_|refine wx2 ?_ ?_<;>intro hp|refine s_end hk ?_)<;>(clear hk a;intro a hk))|((first|refine wx3 ?_;intro w b|refine wx4 ?_;intro w|refine wx5 ?_;intro w v);clear hk hS a;intro hS a hk)|refine wx0 ?_|fail))
  refine sg hk (g_callO hk (hf := by kernel_rfl) (hc := growB_any (n := X.length - 1 + sumS X) hS (by omega)) (h := ?_));clear hk hS a;rintro _ w ⟨rfl, hS⟩ a hk
  (repeat' (first|((first|refine wx1 ?_|refine wx2 ?_ ?_<;>intro hp|refine s_end hk ?_)<;>(clear hk a;intro a hk))|((first|refine wx3 ?_;intro w b|refine wx4 ?_;intro w|refine wx5 ?_;intro w v);clear hk hS a;intro hS a hk)|refine wx0 ?_|fail))
  refine sg hk (g_callO hk (hf := by kernel_rfl) (hc := writeB_any (l := []) x0 hS (by have := hx x0 (List.mem_of_getElem? hX0);simp only [List.length_nil];omega)) (h := ?_));clear hk hS a;rintro _ w ⟨rfl, hS⟩ a hk
  (repeat' (first|((first|refine wx1 ?_|refine wx2 ?_ ?_<;>intro hp|refine s_end hk ?_)<;>(clear hk a;intro a hk))|((first|refine wx3 ?_;intro w b|refine wx4 ?_;intro w|refine wx5 ?_;intro w v);clear hk hS a;intro hS a hk)|refine wx0 ?_|fail))
  refine sg hk (g_partF (i := 1) hk ?_ (ht := eT rfl) (hs := (by first | exact St.rdT hS (by assumption) | exact OwT.rd (hS.rd (A := OwT _ _ _) atx) | assumption)) (hE := zT rfl) (hi := by omega));clear hk a;intro vp hvp a hk
  obtain ⟨Y, hY⟩ : ∃ Y, X.drop 1 = Y := ⟨_, rfl⟩
  rw [hY] at hvp
  have hYl : Y.length = X.length - 1 := by rw [← hY, List.length_drop]
  have hYm : ∀ s ∈ Y, s.size ≤ Z := fun s hs => hx s (by rw [← hY] at hs;exact List.mem_of_mem_drop hs)
  have hvp0 := hvp w0 hv
  (repeat' (first|((first|refine wx1 ?_|refine wx2 ?_ ?_<;>intro hp|refine s_end hk ?_)<;>(clear hk a;intro a hk))|((first|refine wx3 ?_;intro w b|refine wx4 ?_;intro w|refine wx5 ?_;intro w v);clear hk hS a;intro hS a hk)|refine wx0 ?_|fail))
  replace hk := Kn.kp [1, 8, 63, 64, 65] hk
  have e7 : ([] ++ x0.data.toList : List UInt8) = x0.data.toList ++ joinT (Y.take 0) := by simp [joinT]
  rw [e7] at hS
  refine wp_for Y.length (fun i _ => [(65, .int .i64 (i : Int))]) (fun i _ => [blH bldT bldE b (x0.data.toList ++ joinT (Y.take i))]) (fun _ _ => True) () hk skx hS.sb trivial ?_
  clear hk hS a
  rintro i - a w hi2 hk hS -
  have hjl := joinT_len hYm i hi2
  have hx0l : x0.data.toList.length = x0.size := Array.length_toList
  have hx0s := hx x0 (List.mem_of_getElem? hX0)
  have hbj : (Z + 1) * i ≤ (1000000 + 1) * 10002 := Nat.mul_le_mul (by omega) (by omega)
  have hvp1 := hS.rdT hvp0
  have hll : (x0.data.toList ++ joinT (Y.take i)).length = x0.size + (joinT (Y.take i)).length := by rw [List.length_append, hx0l]
  by_cases hil2 : i < Y.length
  ·obtain ⟨y, hyi⟩ : ∃ y, Y[i]? = some y := ⟨_, List.getElem?_eq_getElem hil2⟩
   have hys := hYm y (List.mem_of_getElem? hyi)
   have hst : x0.data.toList ++ joinT (Y.take i) ++ [32] ++ y.data.toList = x0.data.toList ++ joinT (Y.take (i + 1)) := by rw [take_snoc hyi, joinT_snoc];simp
   generalize x0.data.toList ++ joinT (Y.take i) = Z at *
   (repeat' (first|((first|refine wx1 ?_|refine wx2 ?_ ?_<;>intro hp|refine s_end hk ?_)<;>(clear hk a;intro a hk))|((first|refine wx3 ?_;intro w b|refine wx4 ?_;intro w|refine wx5 ?_;intro w v);clear hk hS a;intro hS a hk)|refine wx0 ?_|fail))
   refine sg hk (g_callO hk (hf := by kernel_rfl) (hc := writeB_any (l := Z) ⟨#[32]⟩ hS (by omega)) (h := ?_));clear hk hS a;rintro _ w ⟨rfl, hS⟩ a hk
   rw [show (ByteArray.mk #[32]).data.toList = [32] from rfl] at hS
   (repeat' (first|((first|refine wx1 ?_|refine wx2 ?_ ?_<;>intro hp|refine s_end hk ?_)<;>(clear hk a;intro a hk))|((first|refine wx3 ?_;intro w b|refine wx4 ?_;intro w|refine wx5 ?_;intro w v);clear hk hS a;intro hS a hk)|refine wx0 ?_|fail))
   refine sg hk (g_callO hk (hf := by kernel_rfl) (hc := writeB_any (l := Z ++ [32]) y hS (by rw [List.length_append, List.length_singleton];omega)) (h := ?_));clear hk hS a;rintro _ w ⟨rfl, hS⟩ a hk
   rw [hst] at hS
   (repeat' (first|((first|refine wx1 ?_|refine wx2 ?_ ?_<;>intro hp|refine s_end hk ?_)<;>(clear hk a;intro a hk))|((first|refine wx3 ?_;intro w b|refine wx4 ?_;intro w|refine wx5 ?_;intro w v);clear hk hS a;intro hS a hk)|refine wx0 ?_|fail))
   exact ⟨hil2, (), hk.sd, hS.sb, trivial⟩
  ·have hii : i = Y.length := by omega
   subst hii
   rw [List.take_length] at hS
   (repeat' (first|((first|refine wx1 ?_|refine wx2 ?_ ?_<;>intro hp|refine s_end hk ?_)<;>(clear hk a;intro a hk))|((first|refine wx3 ?_;intro w b|refine wx4 ?_;intro w|refine wx5 ?_;intro w v);clear hk hS a;intro hS a hk)|refine wx0 ?_|fail))
   refine sg hk (g_callO hk (hf := by kernel_rfl) (hc := stringB_any (l := x0.data.toList ++ joinT Y) hS) (h := ?_));clear hk hS a;rintro _ w ⟨rfl, hS⟩ a hk
   (repeat' (first|((first|refine wx1 ?_|refine wx2 ?_ ?_<;>intro hp|refine s_end hk ?_)<;>(clear hk a;intro a hk))|((first|refine wx3 ?_;intro w b|refine wx4 ?_;intro w|refine wx5 ?_;intro w v);clear hk hS a;intro hS a hk)|refine wx0 ?_|fail))
   refine done1 hk (h := ⟨?_, hS.nil⟩)
   rw [← hX, joinL]
   rw [← hX, List.drop_one, List.tail_cons] at hY
   rw [← hY]
theorem join1_any (x0 : ByteArray) (v : Value) (w0 : World) (hv : SlT [x0] v w0) :
  Calls Tryz.prog 36 #[v, .string ⟨#[32]⟩] w0 (Ret fun v w => v = .string x0 ∧ St w0 [] w) := by
 have hX0 : [x0][0]? = some x0 := rfl
 have hl1 : [x0].length = 1 := rfl
 refine enter Tryz.func36 rfl Tryz.ntmps36 rfl (fun a hk => ?_);have hS := St.refl w0
 (repeat' (first|((first|refine wx1 ?_|refine wx2 ?_ ?_<;>intro hp|refine s_end hk ?_)<;>(clear hk a;intro a hk))|((first|refine wx3 ?_;intro w b|refine wx4 ?_;intro w|refine wx5 ?_;intro w v);clear hk hS a;intro hS a hk)|refine wx0 ?_|fail))
 exact done1 hk (h := ⟨rfl, hS.nil⟩)
theorem joinL_one (x : ByteArray) : (⟨(joinL [x]).toArray⟩ : ByteArray) = x := by
 cases x with
 | mk d => simp [joinL, joinT]
theorem joinX_any (Z : Nat) (hZ : Z ≤ 1000000) (X : List ByteArray) (hne : X ≠ []) (hl : X.length ≤ 10000) (hx : ∀ s ∈ X, s.size ≤ Z) (v : Value) (w0 : World) (hv : SlT X v w0) :
  Calls Tryz.prog 36 #[v, .string ⟨#[32]⟩] w0 (Ret fun v w => v = .string ⟨(joinL X).toArray⟩ ∧ St w0 [] w) := by
 match X, hne, hl, hx, hv with
 | [x0], _, _, _, hv => rw [joinL_one];exact join1_any x0 v w0 hv
 | x0 :: x1 :: r, _, hl, hx, hv => exact join2_any Z hZ x0 x1 r (by simp only [List.length_cons] at hl;omega) hx v w0 hv
end Go.Proofs.YtgklceoodpocaaaGreatDoor
