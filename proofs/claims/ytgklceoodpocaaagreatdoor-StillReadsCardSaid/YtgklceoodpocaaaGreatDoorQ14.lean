/- Layer 5, the reference: a node is put in, and moved. Layer 5, the reference: a node stands elsewhere. Layer 5: a node, and all below it, are told, and removed. Layer 5: a node is removed. -/
import Derived.Test.YtgklceoodpocaaaGreatDoorQ11
import Derived.Test.YtgklceoodpocaaaGreatDoorQ13
import Derived.Test.YtgklceoodpocaaaGreatDoorQ09
set_option linter.all false
namespace Go.Proofs.YtgklceoodpocaaaGreatDoor
open Go.RowKit
set_option maxRecDepth 100000
attribute [local irreducible] Go.Code.wpIn Go.wpListIn Go.Calls Gives Go.Exit.then Go.Exit.inBlock Done ObxE
theorem RnR.four {w : World} {n : NodeP} {id k p : Int} {tag text : ByteArray} {x y z u : Hd} (h : RnR w n (id, k, tag, text, x, y, z, p, u)) : SlT n.cls x.v w ∧ SlT n.att y.v w ∧ SlT n.sty z.v w ∧ SlT n.kids u.v w := by
 obtain ⟨a1, c1, a2, c2, a3, c3, a4, c4, e, h1, h2, h3, h4⟩ := h
 simp only [Prod.mk.injEq] at e
 obtain ⟨-, -, -, -, rfl, rfl, rfl, -, rfl⟩ := e
 exact ⟨h1, h2, h3, h4⟩
section
variable {B : Bs} {w : World} {L : List HP} {D : DomP} {K : Nat} {r0 : Value}
set_option maxHeartbeats 8000000 in
theorem rins5_any (parent at_ id : Int) (hW : WfD D) (hb : Bnd K D) (hK : K ≤ 800) (hS : St B (refO D r0 :: L) w) :
  Calls Tryz.prog 22 #[r0, .int .i64 parent, .int .i64 at_, .int .i64 id] w (Ret fun v w' => ∃ r, v = .tuple #[r, .int .i64 (insP D parent at_ id).2] ∧ St B (refO (insP D parent at_ id).1 r :: L) w') := by
 obtain ⟨H, ao, c, rfl, hS1⟩ := hS.refO .here
 clear hS
 have hS := hS1
 clear hS1
 have hRd := hS.rdr .here
 have hHl := hRd.2.len
 have hlen := hb.len
 have hnx := hb.nx
 have hret : ∀ {w : World} {X : List HP}, Sub (rdH (Rd5R D H ao c) :: L) X → St B X w → St B (refO D (rdV D H.length ao c) :: L) w := fun hs h => refO.of (h.sub hs)
 have hK5 : ∀ i n, D.f i = some n → n.kids.length ≤ 1000 := fun i n hn => by have := (hb.get hn).kids;omega
 have hRn := hRd.2
 clear hRd
 refine enter Tryz.func22 rfl Tryz.ntmps22 rfl (fun a hk => ?_)
 refine wpIn_seq ?_;refine wpIn_region_lit ?_
 refine st_box hk hS ?_;clear hk hS a;intro w b4 hS a hk
 refine st_alloc hk hS ?_;clear hk hS a;intro w b8 hS a hk
 (repeat' (first|((first|refine wx1 ?_|refine wx2 ?_ ?_<;>intro hp|refine s_end hk ?_)<;>(clear hk a;intro a hk))|((first|refine wx3 ?_;intro w b|refine wx4 ?_;intro w|refine wx5 ?_;intro w v);clear hk hS a;intro hS a hk)|refine wx0 ?_|fail))
 refine sg hk (g_callO hk (hf := by kernel_rfl) (hc := rfind5_any D.most D.next H _ parent _ (hS.rdr (D := D) (H := H) (ao := ao) (c := c) atx).1 (by omega)) (h := ?_));clear hk a;rintro _ w ⟨rfl, hS1⟩ a hk;replace hS := hS.call0 hS1;clear hS1
 cases hp : D.f parent with
 | none =>
  rw [insP_11 (.inl hp)]
  rw [hRn.non hp] at hk
  simp only [Option.getD_none, Option.isSome_none] at hk
  (repeat' (first|((first|refine wx1 ?_|refine wx2 ?_ ?_<;>intro hp|refine s_end hk ?_)<;>(clear hk a;intro a hk))|((first|refine wx3 ?_;intro w b|refine wx4 ?_;intro w|refine wx5 ?_;intro w v);clear hk hS a;intro hS a hk)|refine wx0 ?_|fail))
  refine sg hk (g_callO hk (hf := by kernel_rfl) (hc := rfind5_any D.most D.next H _ id _ (hS.rdr (D := D) (H := H) (ao := ao) (c := c) atx).1 (by omega)) (h := ?_));clear hk a;rintro _ w ⟨rfl, hS1⟩ a hk;replace hS := hS.call0 hS1;clear hS1
  generalize (fndR H id).getD zRn = z at hk
  obtain ⟨id0, k0, tag0, text0, ⟨x1, x2, x3⟩, ⟨y1, y2, y3⟩, ⟨z1, z2, z3⟩, p0, ⟨u1, u2, u3⟩⟩ := z
  (repeat' (first|((first|refine wx1 ?_|refine wx2 ?_ ?_<;>intro hp|refine s_end hk ?_)<;>(clear hk a;intro a hk))|((first|refine wx3 ?_;intro w b|refine wx4 ?_;intro w|refine wx5 ?_;intro w v);clear hk hS a;intro hS a hk)|refine wx0 ?_|fail))
  exact done2R hk rfl (.str hS (hT := aT rfl) (hs := zT rfl)) (.tmp rfl) (h := ⟨_, rfl, hret (.cons atx sbx) hS⟩)
 | some p =>
  obtain ⟨x, hxp, hrp⟩ := hRn.fnd hp
  obtain ⟨a1, c1, a2, c2, a3, c3, a4, c4, rfl, -⟩ := hrp
  rw [hxp] at hk
  simp only [Option.getD_some, Option.isSome_some] at hk
  (repeat' (first|((first|refine wx1 ?_|refine wx2 ?_ ?_<;>intro hp|refine s_end hk ?_)<;>(clear hk a;intro a hk))|((first|refine wx3 ?_;intro w b|refine wx4 ?_;intro w|refine wx5 ?_;intro w v);clear hk hS a;intro hS a hk)|refine wx0 ?_|fail))
  refine sg hk (g_callO hk (hf := by kernel_rfl) (hc := rfind5_any D.most D.next H _ id _ (hS.rdr (D := D) (H := H) (ao := ao) (c := c) atx).1 (by omega)) (h := ?_));clear hk a;rintro _ w ⟨rfl, hS1⟩ a hk;replace hS := hS.call0 hS1;clear hS1
  cases hn : D.f id with
  | none =>
   rw [insP_11 (.inr hn)]
   rw [hRn.non hn] at hk
   simp only [Option.getD_none, Option.isSome_none] at hk
   (repeat' (first|((first|refine wx1 ?_|refine wx2 ?_ ?_<;>intro hp|refine s_end hk ?_)<;>(clear hk a;intro a hk))|((first|refine wx3 ?_;intro w b|refine wx4 ?_;intro w|refine wx5 ?_;intro w v);clear hk hS a;intro hS a hk)|refine wx0 ?_|fail))
   exact done2R hk rfl (.str hS (hT := aT rfl) (hs := zT rfl)) (.tmp rfl) (h := ⟨_, rfl, hret (.cons atx sbx) hS⟩)
  | some n =>
   obtain ⟨x, hxn, hrn⟩ := hRn.fnd hn
   obtain ⟨a5, c5, a6, c6, a7, c7, a8, c8, rfl, -⟩ := hrn
   rw [hxn] at hk
   simp only [Option.getD_some, Option.isSome_some] at hk
   by_cases hk2 : p.kind = 2
   ·by_cases i0 : id = 0
    ·rw [insP_1 hp hn hk2 (.inl i0)]
     (repeat' (first|((first|refine wx1 ?_|refine wx2 ?_ ?_<;>intro hp|refine s_end hk ?_)<;>(clear hk a;intro a hk))|((first|refine wx3 ?_;intro w b|refine wx4 ?_;intro w|refine wx5 ?_;intro w v);clear hk hS a;intro hS a hk)|refine wx0 ?_|fail))
     exact done2R hk rfl (.str hS (hT := aT rfl) (hs := zT rfl)) (.tmp rfl) (h := ⟨_, rfl, hret (.cons atx sbx) hS⟩)
    ·by_cases i1 : n.par = -1
     ·(repeat' (first|((first|refine wx1 ?_|refine wx2 ?_ ?_<;>intro hp|refine s_end hk ?_)<;>(clear hk a;intro a hk))|((first|refine wx3 ?_;intro w b|refine wx4 ?_;intro w|refine wx5 ?_;intro w v);clear hk hS a;intro hS a hk)|refine wx0 ?_|fail))
      refine sg hk (g_callO hk (hf := by kernel_rfl) (hc := rwithin5_any hW (by omega) hK5 parent id _ (hS.rdr (D := D) (H := H) (ao := ao) (c := c) atx).1 (hS.rdr (D := D) (H := H) (ao := ao) (c := c) atx).2) (h := ?_));clear hk a;rintro vr w ⟨bw, rfl, hbw, hS1⟩ a hk;replace hS := hS.call hS1;clear hS1
      rw [List.nil_append] at hS
      have hv4 : SlT p.kids (.slice a4 p.kids.length c4) w := (fnd_at (hS.rdr (D := D) (H := H) (ao := ao) (c := c) atx) hp hxp).kids5
      cases bw with
      | true =>
       rw [insP_1 hp hn hk2 (.inr (.inr (.inl (hbw.1 rfl))))]
       (repeat' (first|((first|refine wx1 ?_|refine wx2 ?_ ?_<;>intro hp|refine s_end hk ?_)<;>(clear hk a;intro a hk))|((first|refine wx3 ?_;intro w b|refine wx4 ?_;intro w|refine wx5 ?_;intro w v);clear hk hS a;intro hS a hk)|refine wx0 ?_|fail))
       exact done2R hk rfl (.str hS (hT := aT rfl) (hs := zT rfl)) (.tmp rfl) (h := ⟨_, rfl, hret (.cons atx sbx) hS⟩)
      | false =>
       have hnw : ¬ Win D.f id parent := fun h => by have := hbw.2 h;cases this
       by_cases i2 : at_ < 0
       ·rw [insP_1 hp hn hk2 (.inr (.inr (.inr (.inl i2))))]
        (repeat' (first|((first|refine wx1 ?_|refine wx2 ?_ ?_<;>intro hp|refine s_end hk ?_)<;>(clear hk a;intro a hk))|((first|refine wx3 ?_;intro w b|refine wx4 ?_;intro w|refine wx5 ?_;intro w v);clear hk hS a;intro hS a hk)|refine wx0 ?_|fail))
        exact done2R hk rfl (.str hS (hT := aT rfl) (hs := zT rfl)) (.tmp rfl) (h := ⟨_, rfl, hret (.cons atx sbx) hS⟩)
       ·by_cases i3 : at_ > p.kids.length
        ·rw [insP_1 hp hn hk2 (.inr (.inr (.inr (.inr i3))))]
         (repeat' (first|((first|refine wx1 ?_|refine wx2 ?_ ?_<;>intro hp|refine s_end hk ?_)<;>(clear hk a;intro a hk))|((first|refine wx3 ?_;intro w b|refine wx4 ?_;intro w|refine wx5 ?_;intro w v);clear hk hS a;intro hS a hk)|refine wx0 ?_|fail))
         exact done2R hk rfl (.str hS (hT := aT rfl) (hs := zT rfl)) (.tmp rfl) (h := ⟨_, rfl, hret (.cons atx sbx) hS⟩)
        ·rw [insP_0 hp hn hk2 (by simp only [not_or];exact ⟨i0, fun h => h i1, hnw, i2, i3⟩)]
         have hne : id ≠ parent := fun e => hnw (by rw [e];exact .refl hp)
         have bk := (hb.get hp).kids
         have ep : p.id = parent := fnd_id hp
         have en : n.id = id := fnd_id hn
         obtain ⟨i, rfl⟩ : ∃ i : Nat, at_ = i := ⟨at_.toNat, by omega⟩
         rw [Int.toNat_natCast]
         (repeat' (first|((first|refine wx1 ?_|refine wx2 ?_ ?_<;>intro hp|refine s_end hk ?_)<;>(clear hk a;intro a hk))|((first|refine wx3 ?_;intro w b|refine wx4 ?_;intro w|refine wx5 ?_;intro w v);clear hk hS a;intro hS a hk)|refine wx0 ?_|fail))
         refine sg hk (g_callO hk (hf := by kernel_rfl) (hc := rwith5_any p.kids i id _ _ hv4 (by omega) (by omega)) (h := ?_));clear hk a;rintro vk w hS1 a hk;replace hS := hS.call hS1;clear hS1
         clear hv4
         rw [List.cons_append, List.nil_append] at hS
         obtain ⟨aovk, cvk, hshp, _⟩ := (OwT.rd (hS.rd (A := OwT 3 _ vk) atx)).shape;subst hshp
         (repeat' (first|((first|refine wx1 ?_|refine wx2 ?_ ?_<;>intro hp|refine s_end hk ?_)<;>(clear hk a;intro a hk))|((first|refine wx3 ?_;intro w b|refine wx4 ?_;intro w|refine wx5 ?_;intro w v);clear hk hS a;intro hS a hk)|refine wx0 ?_|fail))
         refine wp_drawn 5 mixed (by kernel_rfl) hk hS ?_;clear hk hS a
         (repeat' (first|(show ObxE _ _ _ _ _ _ _ _ _ (_::_) _ _ _;first|refine ox1 ?_|refine ox2 ?_ ?_<;>intro hp)|fail))
         refine' obe_res (fun us a w hk hd hS => ?_) ?_;rotate_left;focus (have hk := Kn.vw hk vwx;exact g_callO hk (hf := by kernel_rfl) (hc := rputO_any D.most D.next H _ (p.id, p.kind, p.tag, p.text, ⟨a1, p.cls.length, c1⟩, ⟨a2, p.att.length, c2⟩, ⟨a3, p.sty.length, c3⟩, p.par, ⟨aovk, (insF p.kids i id).length, cvk⟩) _ (hS.rdr (D := D) (H := H) (ao := ao) (c := c) atx).1 (by omega)) (h := fun _ _ h => h))
         (repeat' (first|(show ObxE _ _ _ _ _ _ _ _ _ (_::_) _ _ _;first|refine ox1 ?_|refine ox2 ?_ ?_<;>intro hp)|fail))
         refine' obe_dep 72 2 (V := fun _ v => putO D.most D.next (putR (putR H (p.id, p.kind, p.tag, p.text, ⟨a1, p.cls.length, c1⟩, ⟨a2, p.att.length, c2⟩, ⟨a3, p.sty.length, c3⟩, p.par, ⟨aovk, (insF p.kids i id).length, cvk⟩)) (n.id, n.kind, n.tag, n.text, ⟨a5, n.cls.length, c5⟩, ⟨a6, n.att.length, c6⟩, ⟨a7, n.sty.length, c7⟩, parent, ⟨a8, n.kids.length, c8⟩)) v) (fun us a w hk hd hS => ?_) ?_
         ·have hk := Kn.vw hk vwx
          have hG : (putO D.most D.next (putR H (p.id, p.kind, p.tag, p.text, ⟨a1, p.cls.length, c1⟩, ⟨a2, p.att.length, c2⟩, ⟨a3, p.sty.length, c3⟩, p.par, ⟨aovk, (insF p.kids i id).length, cvk⟩)) (us 2)).rd w := hd.1
          obtain ⟨aq, cq, he, hs2⟩ := putO.rd5 hG
          show Gives _ _ _ _ (fun v w' => St w [putO D.most D.next (putR (putR H (p.id, p.kind, p.tag, p.text, ⟨a1, p.cls.length, c1⟩, ⟨a2, p.att.length, c2⟩, ⟨a3, p.sty.length, c3⟩, p.par, ⟨aovk, (insF p.kids i id).length, cvk⟩)) (n.id, n.kind, n.tag, n.text, ⟨a5, n.cls.length, c5⟩, ⟨a6, n.att.length, c6⟩, ⟨a7, n.sty.length, c7⟩, parent, ⟨a8, n.kids.length, c8⟩)) v] w')
          simp only [Nat.zero_add, Nat.reduceAdd] at hk
          rw [he] at hk
          exact g_callO hk (hf := by kernel_rfl) (hc := rputO_any D.most D.next (putR H (p.id, p.kind, p.tag, p.text, ⟨a1, p.cls.length, c1⟩, ⟨a2, p.att.length, c2⟩, ⟨a3, p.sty.length, c3⟩, p.par, ⟨aovk, (insF p.kids i id).length, cvk⟩)) _ (n.id, n.kind, n.tag, n.text, ⟨a5, n.cls.length, c5⟩, ⟨a6, n.att.length, c6⟩, ⟨a7, n.sty.length, c7⟩, parent, ⟨a8, n.kids.length, c8⟩) _ hs2 (by rw [putR_len];omega)) (h := fun _ _ h => h)
         refine obe_nil ⟨rfl, ?_⟩;intro us a w hk hS
         simp only [resE, List.cons_append, List.nil_append, Nat.zero_add, Nat.reduceAdd] at hS
         replace hk := Kn.kp [4, 8, 74] hk
         simp only [HV.of, Nat.zero_add, Nat.reduceAdd] at hk
         generalize us 4 = v74 at hS hk
         obtain ⟨aq, cq, rfl, hS1⟩ := hS.putO (r := v74) atx
         clear hS
         have hS := hS1
         clear hS1
         (repeat' (first|((first|refine wx1 ?_|refine wx2 ?_ ?_<;>intro hp|refine s_end hk ?_)<;>(clear hk a;intro a hk))|((first|refine wx3 ?_;intro w b|refine wx4 ?_;intro w|refine wx5 ?_;intro w v);clear hk hS a;intro hS a hk)|refine wx0 ?_|fail))
         refine done2R hk rfl (.str hS (hT := aT rfl) (hs := zT rfl)) (.tmp rfl) (h := ⟨_, rfl, ?_⟩)
         refine refO.of (D := { D with l := putP (putP D.l { p with kids := insF p.kids i id }) { n with par := parent } }) (H := putR (putR H (p.id, p.kind, p.tag, p.text, ⟨a1, p.cls.length, c1⟩, ⟨a2, p.att.length, c2⟩, ⟨a3, p.sty.length, c3⟩, p.par, ⟨aovk, (insF p.kids i id).length, cvk⟩)) (n.id, n.kind, n.tag, n.text, ⟨a5, n.cls.length, c5⟩, ⟨a6, n.att.length, c6⟩, ⟨a7, n.sty.length, c7⟩, parent, ⟨a8, n.kids.length, c8⟩)) (ao := aq) (c := cq) (rdH.of (L1 := [OwT 73 (putR (putR H (p.id, p.kind, p.tag, p.text, ⟨a1, p.cls.length, c1⟩, ⟨a2, p.att.length, c2⟩, ⟨a3, p.sty.length, c3⟩, p.par, ⟨aovk, (insF p.kids i id).length, cvk⟩)) (n.id, n.kind, n.tag, n.text, ⟨a5, n.cls.length, c5⟩, ⟨a6, n.att.length, c6⟩, ⟨a7, n.sty.length, c7⟩, parent, ⟨a8, n.kids.length, c8⟩)) (.slice aq (putR (putR H (p.id, p.kind, p.tag, p.text, ⟨a1, p.cls.length, c1⟩, ⟨a2, p.att.length, c2⟩, ⟨a3, p.sty.length, c3⟩, p.par, ⟨aovk, (insF p.kids i id).length, cvk⟩)) (n.id, n.kind, n.tag, n.text, ⟨a5, n.cls.length, c5⟩, ⟨a6, n.att.length, c6⟩, ⟨a7, n.sty.length, c7⟩, parent, ⟨a8, n.kids.length, c8⟩)).length cq), OwT 3 (insF p.kids i id) (.slice aovk (insF p.kids i id).length cvk), rdH (Rd5R D H ao c)]) (hS.sub (.cons atx (.cons atx (.cons atx sbx)))) fun g hg => ?_)
         have g1 := OwT.rd (hg (OwT 73 (putR (putR H (p.id, p.kind, p.tag, p.text, ⟨a1, p.cls.length, c1⟩, ⟨a2, p.att.length, c2⟩, ⟨a3, p.sty.length, c3⟩, p.par, ⟨aovk, (insF p.kids i id).length, cvk⟩)) (n.id, n.kind, n.tag, n.text, ⟨a5, n.cls.length, c5⟩, ⟨a6, n.att.length, c6⟩, ⟨a7, n.sty.length, c7⟩, parent, ⟨a8, n.kids.length, c8⟩)) (.slice aq (putR (putR H (p.id, p.kind, p.tag, p.text, ⟨a1, p.cls.length, c1⟩, ⟨a2, p.att.length, c2⟩, ⟨a3, p.sty.length, c3⟩, p.par, ⟨aovk, (insF p.kids i id).length, cvk⟩)) (n.id, n.kind, n.tag, n.text, ⟨a5, n.cls.length, c5⟩, ⟨a6, n.att.length, c6⟩, ⟨a7, n.sty.length, c7⟩, parent, ⟨a8, n.kids.length, c8⟩)).length cq)) (by simp))
         have g2 := OwT.rd (hg (OwT 3 (insF p.kids i id) (.slice aovk (insF p.kids i id).length cvk)) (by simp))
         have g3 := rdH.rd (Rd5R.stays D H ao c) (hg (rdH (Rd5R D H ao c)) (by simp))
         obtain ⟨s1, s2, s3, -⟩ := (fnd_at g3 hp hxp).four
         obtain ⟨s5, s6, s7, s8⟩ := (fnd_at g3 hn hxn).four
         exact ⟨g1, RowsR.put (n := { n with par := parent }) (RowsR.put (n := { p with kids := insF p.kids i id }) g3.2 ⟨a1, c1, a2, c2, a3, c3, aovk, cvk, rfl, s1, s2, s3, g2⟩) ⟨a5, c5, a6, c6, a7, c7, a8, c8, rfl, s5, s6, s7, s8⟩⟩
     ·rw [insP_1 hp hn hk2 (.inr (.inl i1))]
      have hpar0 : n.par ≥ 0 := by
       rcases hW.wf.par hn with ⟨h, -⟩ | ⟨h, -⟩
       ·exact absurd h i1
       ·exact h
      (repeat' (first|((first|refine wx1 ?_|refine wx2 ?_ ?_<;>intro hp|refine s_end hk ?_)<;>(clear hk a;intro a hk))|((first|refine wx3 ?_;intro w b|refine wx4 ?_;intro w|refine wx5 ?_;intro w v);clear hk hS a;intro hS a hk)|refine wx0 ?_|fail))
      exact done2R hk rfl (.str hS (hT := aT rfl) (hs := zT rfl)) (.tmp rfl) (h := ⟨_, rfl, hret (.cons atx sbx) hS⟩)
   ·rw [insP_14 hp hn hk2]
    (repeat' (first|((first|refine wx1 ?_|refine wx2 ?_ ?_<;>intro hp|refine s_end hk ?_)<;>(clear hk a;intro a hk))|((first|refine wx3 ?_;intro w b|refine wx4 ?_;intro w|refine wx5 ?_;intro w v);clear hk hS a;intro hS a hk)|refine wx0 ?_|fail))
    exact done2R hk rfl (.str hS (hT := aT rfl) (hs := zT rfl)) (.tmp rfl) (h := ⟨_, rfl, hret (.cons atx sbx) hS⟩)
end
end Go.Proofs.YtgklceoodpocaaaGreatDoor
namespace Go.Proofs.YtgklceoodpocaaaGreatDoor
open Go.RowKit
set_option maxRecDepth 100000
attribute [local irreducible] Go.Code.wpIn Go.wpListIn Go.Calls Gives Go.Exit.then Go.Exit.inBlock Done ObxE
section
variable {B : Bs} {w : World} {L : List HP} {D : DomP} {K : Nat} {r0 : Value}
set_option maxHeartbeats 8000000 in
theorem rmov5_any (id at_ : Int) (hW : WfD D) (hb : Bnd K D) (hK : K ≤ 800) (hS : St B (refO D r0 :: L) w) :
  Calls Tryz.prog 24 #[r0, .int .i64 id, .int .i64 at_] w (Ret fun v w' => ∃ r, v = .tuple #[r, .int .i64 (movDP D id at_).2] ∧ St B (refO (movDP D id at_).1 r :: L) w') := by
 obtain ⟨H, ao, c, rfl, hS1⟩ := hS.refO .here
 clear hS
 have hS := hS1
 clear hS1
 have hRd := hS.rdr .here
 have hHl := hRd.2.len
 have hlen := hb.len
 have hret : ∀ {w : World} {X : List HP}, Sub (rdH (Rd5R D H ao c) :: L) X → St B X w → St B (refO D (rdV D H.length ao c) :: L) w := fun hs h => refO.of (h.sub hs)
 have hRn := hRd.2
 clear hRd
 refine enter Tryz.func24 rfl Tryz.ntmps24 rfl (fun a hk => ?_)
 refine wpIn_seq ?_;refine wpIn_region_lit ?_
 refine st_box hk hS ?_;clear hk hS a;intro w b3 hS a hk
 refine st_alloc hk hS ?_;clear hk hS a;intro w b6 hS a hk
 (repeat' (first|((first|refine wx1 ?_|refine wx2 ?_ ?_<;>intro hp|refine s_end hk ?_)<;>(clear hk a;intro a hk))|((first|refine wx3 ?_;intro w b|refine wx4 ?_;intro w|refine wx5 ?_;intro w v);clear hk hS a;intro hS a hk)|refine wx0 ?_|fail))
 refine sg hk (g_callO hk (hf := by kernel_rfl) (hc := rfind5_any D.most D.next H _ id _ (hS.rdr (D := D) (H := H) (ao := ao) (c := c) atx).1 (by omega)) (h := ?_));clear hk a;rintro _ w ⟨rfl, hS1⟩ a hk;replace hS := hS.call0 hS1;clear hS1
 cases hn : D.f id with
 | none =>
  rw [movP_11 hn]
  rw [hRn.non hn] at hk
  simp only [Option.getD_none, Option.isSome_none] at hk
  (repeat' (first|((first|refine wx1 ?_|refine wx2 ?_ ?_<;>intro hp|refine s_end hk ?_)<;>(clear hk a;intro a hk))|((first|refine wx3 ?_;intro w b|refine wx4 ?_;intro w|refine wx5 ?_;intro w v);clear hk hS a;intro hS a hk)|refine wx0 ?_|fail))
  exact done2R hk rfl (.str hS (hT := aT rfl) (hs := zT rfl)) (.tmp rfl) (h := ⟨_, rfl, hret (.cons atx sbx) hS⟩)
 | some n =>
  obtain ⟨x, hxn, hrn⟩ := hRn.fnd hn
  obtain ⟨a5, c5, a6, c6, a7, c7, a8, c8, rfl, -⟩ := hrn
  rw [hxn] at hk
  simp only [Option.getD_some, Option.isSome_some] at hk
  (repeat' (first|((first|refine wx1 ?_|refine wx2 ?_ ?_<;>intro hp|refine s_end hk ?_)<;>(clear hk a;intro a hk))|((first|refine wx3 ?_;intro w b|refine wx4 ?_;intro w|refine wx5 ?_;intro w v);clear hk hS a;intro hS a hk)|refine wx0 ?_|fail))
  refine sg hk (g_callO hk (hf := by kernel_rfl) (hc := rfind5_any D.most D.next H _ n.par _ (hS.rdr (D := D) (H := H) (ao := ao) (c := c) atx).1 (by omega)) (h := ?_));clear hk a;rintro _ w ⟨rfl, hS1⟩ a hk;replace hS := hS.call0 hS1;clear hS1
  cases hp : D.f n.par with
  | none =>
   rw [movP_1 hn hp]
   rw [hRn.non hp] at hk
   simp only [Option.getD_none, Option.isSome_none] at hk
   (repeat' (first|((first|refine wx1 ?_|refine wx2 ?_ ?_<;>intro hp|refine s_end hk ?_)<;>(clear hk a;intro a hk))|((first|refine wx3 ?_;intro w b|refine wx4 ?_;intro w|refine wx5 ?_;intro w v);clear hk hS a;intro hS a hk)|refine wx0 ?_|fail))
   exact done2R hk rfl (.str hS (hT := aT rfl) (hs := zT rfl)) (.tmp rfl) (h := ⟨_, rfl, hret (.cons atx sbx) hS⟩)
  | some p =>
   obtain ⟨x, hxp, hrp⟩ := hRn.fnd hp
   obtain ⟨a1, c1, a2, c2, a3, c3, a4, c4, rfl, -⟩ := hrp
   rw [hxp] at hk
   simp only [Option.getD_some, Option.isSome_some] at hk
   by_cases i0 : at_ < 0
   ·rw [movP_2 hn hp (.inl i0)]
    (repeat' (first|((first|refine wx1 ?_|refine wx2 ?_ ?_<;>intro hp|refine s_end hk ?_)<;>(clear hk a;intro a hk))|((first|refine wx3 ?_;intro w b|refine wx4 ?_;intro w|refine wx5 ?_;intro w v);clear hk hS a;intro hS a hk)|refine wx0 ?_|fail))
    exact done2R hk rfl (.str hS (hT := aT rfl) (hs := zT rfl)) (.tmp rfl) (h := ⟨_, rfl, hret (.cons atx sbx) hS⟩)
   ·by_cases i1 : at_ ≥ p.kids.length
    ·rw [movP_2 hn hp (.inr i1)]
     (repeat' (first|((first|refine wx1 ?_|refine wx2 ?_ ?_<;>intro hp|refine s_end hk ?_)<;>(clear hk a;intro a hk))|((first|refine wx3 ?_;intro w b|refine wx4 ?_;intro w|refine wx5 ?_;intro w v);clear hk hS a;intro hS a hk)|refine wx0 ?_|fail))
     have hv4 : SlT p.kids (.slice a4 p.kids.length c4) w := (fnd_at (hS.rdr (D := D) (H := H) (ao := ao) (c := c) atx) hp hxp).kids5
     (repeat' (first|((first|refine wx1 ?_|refine wx2 ?_ ?_<;>intro hp|refine s_end hk ?_)<;>(clear hk a;intro a hk))|((first|refine wx3 ?_;intro w b|refine wx4 ?_;intro w|refine wx5 ?_;intro w v);clear hk hS a;intro hS a hk)|refine wx0 ?_|fail))
     exact done2R hk rfl (.str hS (hT := aT rfl) (hs := zT rfl)) (.tmp rfl) (h := ⟨_, rfl, hret (.cons atx sbx) hS⟩)
    ·rw [movP_0 hn hp (by simp only [not_or];exact ⟨i0, i1⟩)]
     have bk := (hb.get hp).kids
     have ep : p.id = n.par := fnd_id hp
     obtain ⟨i, rfl⟩ : ∃ i : Nat, at_ = i := ⟨at_.toNat, by omega⟩
     rw [Int.toNat_natCast]
     have hpar : ¬ n.par = -1 := fun e => by rw [e, hW.wf.neg (by omega)] at hp;cases hp
     have hmem : id ∈ p.kids := by
      rcases hW.wf.par hn with ⟨h, -⟩ | ⟨-, q, h, hq⟩
      ·exact absurd h hpar
      ·rw [hp] at h;cases h;exact hq
     have hwl := woP_len (hW.wf.nod _ p hp) hmem
     (repeat' (first|((first|refine wx1 ?_|refine wx2 ?_ ?_<;>intro hp|refine s_end hk ?_)<;>(clear hk a;intro a hk))|((first|refine wx3 ?_;intro w b|refine wx4 ?_;intro w|refine wx5 ?_;intro w v);clear hk hS a;intro hS a hk)|refine wx0 ?_|fail))
     have hv4 : SlT p.kids (.slice a4 p.kids.length c4) w := (fnd_at (hS.rdr (D := D) (H := H) (ao := ao) (c := c) atx) hp hxp).kids5
     (repeat' (first|((first|refine wx1 ?_|refine wx2 ?_ ?_<;>intro hp|refine s_end hk ?_)<;>(clear hk a;intro a hk))|((first|refine wx3 ?_;intro w b|refine wx4 ?_;intro w|refine wx5 ?_;intro w v);clear hk hS a;intro hS a hk)|refine wx0 ?_|fail))
     clear hv4
     refine sg hk (g_callO hk (hf := by kernel_rfl) (hc := rwo5_any p.kids id _ _ ((fnd_at (hS.rdr (D := D) (H := H) (ao := ao) (c := c) atx) hp hxp).kids5) (by omega)) (h := ?_));clear hk a;rintro vo w hS1 a hk;replace hS := hS.call hS1;clear hS1
     rw [List.cons_append, List.nil_append] at hS
     (repeat' (first|((first|refine wx1 ?_|refine wx2 ?_ ?_<;>intro hp|refine s_end hk ?_)<;>(clear hk a;intro a hk))|((first|refine wx3 ?_;intro w b|refine wx4 ?_;intro w|refine wx5 ?_;intro w v);clear hk hS a;intro hS a hk)|refine wx0 ?_|fail))
     refine sg hk (g_callO hk (hf := by kernel_rfl) (hc := rwith5_any (woP p.kids id) i id _ _ (by first | exact St.rdT hS (by assumption) | exact OwT.rd (hS.rd (A := OwT _ _ _) atx) | assumption) (by omega) (by omega)) (h := ?_));clear hk a;rintro vk w hS1 a hk;replace hS := hS.call hS1;clear hS1
     rw [List.cons_append, List.nil_append] at hS
     obtain ⟨aovk, cvk, hshp, _⟩ := (OwT.rd (hS.rd (A := OwT 3 _ vk) atx)).shape;subst hshp
     (repeat' (first|((first|refine wx1 ?_|refine wx2 ?_ ?_<;>intro hp|refine s_end hk ?_)<;>(clear hk a;intro a hk))|((first|refine wx3 ?_;intro w b|refine wx4 ?_;intro w|refine wx5 ?_;intro w v);clear hk hS a;intro hS a hk)|refine wx0 ?_|fail))
     refine sg hk (g_callO hk (hf := by kernel_rfl) (hc := rputO_any D.most D.next H _ (p.id, p.kind, p.tag, p.text, ⟨a1, p.cls.length, c1⟩, ⟨a2, p.att.length, c2⟩, ⟨a3, p.sty.length, c3⟩, p.par, ⟨aovk, (insF (woP p.kids id) i id).length, cvk⟩) _ (hS.rdr (D := D) (H := H) (ao := ao) (c := c) atx).1 (by omega)) (h := ?_));clear hk a;rintro vp w hS1 a hk;replace hS := hS.call hS1;clear hS1
     rw [List.cons_append, List.nil_append] at hS
     obtain ⟨aq, cq, rfl, hS1⟩ := hS.putO (r := vp) atx
     clear hS
     have hS := hS1
     clear hS1
     (repeat' (first|((first|refine wx1 ?_|refine wx2 ?_ ?_<;>intro hp|refine s_end hk ?_)<;>(clear hk a;intro a hk))|((first|refine wx3 ?_;intro w b|refine wx4 ?_;intro w|refine wx5 ?_;intro w v);clear hk hS a;intro hS a hk)|refine wx0 ?_|fail))
     refine done2R hk rfl (.str hS (hT := aT rfl) (hs := zT rfl)) (.tmp rfl) (h := ⟨_, rfl, ?_⟩)
     refine refO.of (D := { D with l := putP D.l { p with kids := insF (woP p.kids id) i id } }) (H := putR H (p.id, p.kind, p.tag, p.text, ⟨a1, p.cls.length, c1⟩, ⟨a2, p.att.length, c2⟩, ⟨a3, p.sty.length, c3⟩, p.par, ⟨aovk, (insF (woP p.kids id) i id).length, cvk⟩)) (ao := aq) (c := cq) (rdH.of (L1 := [OwT 73 (putR H (p.id, p.kind, p.tag, p.text, ⟨a1, p.cls.length, c1⟩, ⟨a2, p.att.length, c2⟩, ⟨a3, p.sty.length, c3⟩, p.par, ⟨aovk, (insF (woP p.kids id) i id).length, cvk⟩)) (.slice aq (putR H (p.id, p.kind, p.tag, p.text, ⟨a1, p.cls.length, c1⟩, ⟨a2, p.att.length, c2⟩, ⟨a3, p.sty.length, c3⟩, p.par, ⟨aovk, (insF (woP p.kids id) i id).length, cvk⟩)).length cq), OwT 3 (insF (woP p.kids id) i id) (.slice aovk (insF (woP p.kids id) i id).length cvk), rdH (Rd5R D H ao c)]) (hS.sub (.cons atx (.cons atx (.cons atx sbx)))) fun g hg => ?_)
     have g1 := OwT.rd (hg (OwT 73 (putR H (p.id, p.kind, p.tag, p.text, ⟨a1, p.cls.length, c1⟩, ⟨a2, p.att.length, c2⟩, ⟨a3, p.sty.length, c3⟩, p.par, ⟨aovk, (insF (woP p.kids id) i id).length, cvk⟩)) (.slice aq (putR H (p.id, p.kind, p.tag, p.text, ⟨a1, p.cls.length, c1⟩, ⟨a2, p.att.length, c2⟩, ⟨a3, p.sty.length, c3⟩, p.par, ⟨aovk, (insF (woP p.kids id) i id).length, cvk⟩)).length cq)) (by simp))
     have g2 := OwT.rd (hg (OwT 3 (insF (woP p.kids id) i id) (.slice aovk (insF (woP p.kids id) i id).length cvk)) (by simp))
     have g3 := rdH.rd (Rd5R.stays D H ao c) (hg (rdH (Rd5R D H ao c)) (by simp))
     obtain ⟨s1, s2, s3, -⟩ := (fnd_at g3 hp hxp).four
     exact ⟨g1, RowsR.put (n := { p with kids := insF (woP p.kids id) i id }) g3.2 ⟨a1, c1, a2, c2, a3, c3, aovk, cvk, rfl, s1, s2, s3, g2⟩⟩
end
end Go.Proofs.YtgklceoodpocaaaGreatDoor
namespace Go.Proofs.YtgklceoodpocaaaGreatDoor
open Go.RowKit
set_option maxRecDepth 100000
attribute [local irreducible] Go.Code.wpIn Go.wpListIn Go.Calls Gives Go.Exit.then Go.Exit.inBlock Done ObxE
def nodX (b : Nat) (n : NodeP) (y : NoA) : HP := bagH (fun _ : Unit => nodeL b n y) (fun _ => True)
def ndsY (bl : Int → Nat) (yy : Int → NoA) (l : List NodeP) : HP := bagH (fun _ : Unit => l.map (fun n => nodX (bl n.id) n (yy n.id))) (fun _ => True)
theorem nodX.rd5 {b : Nat} {n : NodeP} {y : NoA} {w : World} (h : (nodX b n y).rd w) : (pts b (nodC n y) 71).rd w ∧ SlT n.kids (.slice y.2.2.2.1 n.kids.length y.2.2.2.2) w := by
 obtain ⟨⟨⟩, -, F, hs⟩ := bagH.rd h
 exact ⟨hs.rd .here, OwT.rd (hs.rd (.there (.there (.there (.there .here)))))⟩
theorem ndsY.rd5 {bl : Int → Nat} {yy : Int → NoA} {l : List NodeP} {w : World} (h : (ndsY bl yy l).rd w) {id : Int} {n : NodeP} (hn : fnP l id = some n) : (pts (bl id) (nodC n (yy id)) 71).rd w ∧ SlT n.kids (.slice (yy id).2.2.2.1 n.kids.length (yy id).2.2.2.2) w := by
 obtain ⟨⟨⟩, -, F, hs⟩ := bagH.rd h
 obtain ⟨F', -, h1⟩ := hs.all (nodX (bl n.id) n (yy n.id)) (List.mem_map_of_mem (f := fun n => nodX (bl n.id) n (yy n.id)) (fnd_mem hn))
 rw [fnd_id hn] at h1
 exact nodX.rd5 ⟨F', h1⟩
theorem sep_fix {bl : Int → Nat} {w : World} : ∀ {l : List NodeP} {F : Nat → Prop}, (l.map (·.id)).Nodup → Sep (ndsL bl l) F w → (∀ b, F b → b < w.heap.size) → ∃ yy : Int → NoA, Sep (l.map (fun n => nodX (bl n.id) n (yy n.id))) F w
 | [], _, _, _, _ => ⟨fun _ => ((none, 0), (none, 0), (none, 0), (none, 0)), trivial⟩
 | n :: l, F, hu, ⟨F1, F2, h1, h2, h3, h4, h5⟩, hF => by
  simp only [List.map_cons, List.nodup_cons] at hu
  obtain ⟨yy, hy⟩ := sep_fix hu.2 h5 (fun b hb => hF b (h2 b hb))
  obtain ⟨-, y, -, hs⟩ := h4
  refine ⟨fun i => if i = n.id then y else yy i, F1, F2, h1, h2, h3, ⟨fun b hb => hF b (h1 b hb), (), trivial, ?_⟩, ?_⟩
  ·show Sep (nodeL (bl n.id) n (if n.id = n.id then y else yy n.id)) F1 w
   rw [if_pos rfl];exact hs
  ·have : l.map (fun m => nodX (bl m.id) m (if m.id = n.id then y else yy m.id)) = l.map (fun m => nodX (bl m.id) m (yy m.id)) := by
    refine List.map_congr_left fun m hm => ?_
    rw [if_neg (fun e => hu.1 (by rw [← e];exact List.mem_map_of_mem hm))]
   show Sep (l.map (fun m => nodX (bl m.id) m (if m.id = n.id then y else yy m.id))) F2 w
   rw [this];exact hy
theorem sep_un {bl : Int → Nat} {yy : Int → NoA} {w : World} : ∀ {l : List NodeP} {F : Nat → Prop}, Sep (l.map (fun n => nodX (bl n.id) n (yy n.id))) F w → Sep (ndsL bl l) F w
 | [], _, _ => trivial
 | n :: l, F, ⟨F1, F2, h1, h2, h3, ⟨k1, _, _, k2⟩, h5⟩ => ⟨F1, F2, h1, h2, h3, ⟨k1, yy n.id, trivial, k2⟩, sep_un h5⟩
section
variable {B : Bs} {w : World} {L : List HP} {bl : Int → Nat} {l : List NodeP}
theorem St.fix (hS : St B (ndsH bl l :: L) w) (hu : (l.map (·.id)).Nodup) : ∃ yy, St B (ndsY bl yy l :: L) w := by
 obtain ⟨F, hF, F1, F2, h1, h2, h3, ⟨k1, _, _, hs⟩, h5⟩ := hS.own
 obtain ⟨yy, hy⟩ := sep_fix hu hs k1
 exact ⟨yy, hS.below, hS.frz, F, hF, F1, F2, h1, h2, h3, ⟨k1, (), trivial, hy⟩, h5⟩
theorem ndsY.un {yy : Int → NoA} (hS : St B (ndsY bl yy l :: L) w) : St B (ndsH bl l :: L) w := by
 obtain ⟨F, hF, F1, F2, h1, h2, h3, ⟨k1, _, _, hs⟩, h5⟩ := hS.own
 exact ⟨hS.below, hS.frz, F, hF, F1, F2, h1, h2, h3, ⟨k1, (), trivial, sep_un hs⟩, h5⟩
end
abbrev outL (bo : Nat) (acc : List Int) (y : Option Addr × Nat) : List HP := [pts bo [.slice y.1 acc.length y.2] 69, OwT 3 acc (.slice y.1 acc.length y.2)]
def outH (bo : Nat) (acc : List Int) : HP := bagH (fun y : Option Addr × Nat => outL bo acc y) (fun _ => True)
section
variable {B : Bs} {w : World} {L L' : List HP}
theorem St.out5 {bo : Nat} {acc : List Int} (hS : St B L w) (hat : At (outH bo acc) L L') : ∃ a c, St B (outL bo acc (a, c) ++ L') w := by
 obtain ⟨⟨a, c⟩, -, h⟩ := St.bag hS hat
 exact ⟨a, c, h⟩
theorem outH.of {bo : Nat} {acc : List Int} {y : Option Addr × Nat} (hS : St B (outL bo acc y ++ L) w) : St B (outH bo acc :: L) w := bagH.of (A := fun y : Option Addr × Nat => outL bo acc y) (x := y) hS trivial
end
set_option maxHeartbeats 4000000 in
theorem rem1_any {B : Bs} {w : World} {L : List HP} (bo b : Nat) (acc : List Int) (n : NodeP) (y : NoA) (hl : acc.length ≤ 10000) (hn : ∀ w, St B L w → (pts b (nodC n y) 71).rd w) (hS : St B (outH bo acc :: L) w) :
  Calls Tryz.prog 57 #[pA b, pA bo] w (Ret fun _ w' => St B (outH bo (acc ++ [n.id]) :: L) w') := by
 simp only [nodC] at hn
 obtain ⟨ao, co, hS1⟩ := hS.out5 (bo := bo) (acc := acc) .here
 clear hS
 have hS := hS1
 clear hS1
 simp only [outL, List.cons_append, List.nil_append] at hS
 refine enter Tryz.func57 rfl Tryz.ntmps57 rfl (fun a hk => ?_)
 (repeat' (first|((first|refine wx1 ?_|refine wx2 ?_ ?_<;>intro hp|refine s_end hk ?_)<;>(clear hk a;intro a hk))|((first|refine wx3 ?_;intro w b|refine wx4 ?_;intro w|refine wx5 ?_;intro w v);clear hk hS a;intro hS a hk)|refine wx0 ?_|fail))
 refine wp_drawn 6 mixed (by kernel_rfl) hk hS ?_;clear hk hS a
 (repeat' (first|(show ObxE _ _ _ _ _ _ _ _ _ (_::_) _ _ _;first|refine ox1 ?_|refine ox2 ?_ ?_<;>intro hp)|fail))
 refine' obe_val (fun us a w hk hd hS => ?_) ?_;rotate_left;focus (have hk := Kn.vw hk vwx;exact g_var1 hk (same _ _) (aT rfl) (hb := hn _ (hS.sub (Sub.under (Sub.under .refl)))))
 refine' obe_res (fun us a w hk hd hS => ?_) ?_;rotate_left;focus (have hk := Kn.vw hk vwx;exact v_bsT (xs := [n.id]) (m := 0) hk (hT := eT rfl) (hE := zT rfl) (hz := oT rfl))
 refine obe_nil ⟨rfl, ?_⟩;intro us a w hk hS
 simp only [resE, List.cons_append, List.nil_append, Nat.zero_add, Nat.reduceAdd] at hS
 replace hk := Kn.kp [1, 3, 8] hk
 simp only [HV.of, Nat.zero_add, Nat.reduceAdd] at hk
 generalize us 5 = v8 at hS hk
 refine sg hk (g_appD hk hS ?_ (hT := eT rfl) (hTx := eT rfl) (hE := zT rfl) (hz := oT rfl) (hzs := rfl) (hby := bT rfl) (hbytes := (by simp only [List.length_cons, List.length_nil];omega)) (h63 := (by simp only [List.length_cons, List.length_nil, maxLen];omega)));clear hk hS a;intro w v hS a hk
 rename Value => vn
 obtain ⟨aovn, cvn, hshp, _⟩ := (OwT.rd (hS.rd (A := OwT 3 _ vn) atx)).shape;subst hshp
 (repeat' (first|((first|refine wx1 ?_|refine wx2 ?_ ?_<;>intro hp|refine s_end hk ?_)<;>(clear hk a;intro a hk))|((first|refine wx3 ?_;intro w b|refine wx4 ?_;intro w|refine wx5 ?_;intro w v);clear hk hS a;intro hS a hk)|refine wx0 ?_|fail))
 exact done0n hk (h := outH.of (y := (aovn, cvn)) (hS.sub (.cons atx (.cons atx sbx))))
theorem flat_take {β : Type} (g : Int → List β) {ks : List Int} {i : Nat} {k : Int} (h : ks[i]? = some k) : ((ks.take i).map g).flatten.length + (g k).length ≤ (ks.map g).flatten.length ∧ ((ks.take (i + 1)).map g).flatten = ((ks.take i).map g).flatten ++ g k := by
 have e : ((ks.take (i + 1)).map g).flatten = ((ks.take i).map g).flatten ++ g k := by
  rw [take_snoc h, List.map_append, List.flatten_append]
  simp
 refine ⟨?_, e⟩
 have := congrArg List.length e
 rw [List.length_append] at this
 rw [← this]
 conv => rhs;rw [← List.take_append_drop (i + 1) ks, List.map_append, List.flatten_append, List.length_append]
 omega
structure DomY (bd : Nat) (D : DomP) (bm : Nat) (bl : Int → Nat) (yy : Int → NoA) (w : World) : Prop where
 d : (pts bd (domC5 D bm) 67).rd w
 m : (mapH encI (.map (some bm)) (mapL bl D.l)).rd w
 n : (ndsY bl yy D.l).rd w
set_option maxHeartbeats 4000000 in
theorem each5_any {B : Bs} {L : List HP} {bd bm bo : Nat} {bl : Int → Nat} {yy : Int → NoA} {D : DomP} (fid : FuncId) (hf : callable Tryz.prog fid = true)
  (hRD : ∀ acc w, St B (outH bo acc :: L) w → DomY bd D bm bl yy w)
  (hc : ∀ (id : Int) (n : NodeP) (acc : List Int) (w : World), D.f id = some n → acc.length ≤ 10000 → St B (outH bo acc :: L) w → Calls Tryz.prog fid #[pA (bl id), pA bo] w (Ret fun _ w' => St B (outH bo (acc ++ [n.id]) :: L) w'))
  (hA : ∀ i, _root_.Acc (kidOf D.f) i) (hC : ∀ i n, D.f i = some n → ∀ k ∈ n.kids, ∃ c, D.f k = some c) (hK : ∀ i n, D.f i = some n → n.kids.length ≤ 1000) :
  ∀ id, (∃ n, D.f id = some n) → ∀ acc w, acc.length + (preN D.f id).length ≤ 10000 → St B (outH bo acc :: L) w →
   Calls Tryz.prog 56 #[pA bd, .int .i64 id, .func (.func fid) #[] #[pA bo]] w (Ret fun _ w' => St B (outH bo (acc ++ preN D.f id) :: L) w') := by
 intro id
 induction hA id with
 | intro id _ ih =>
  rintro ⟨n, hn⟩ acc w hl hS
  have hpre := pre_some hA hn
  have hlen := congrArg List.length hpre
  rw [List.length_cons] at hlen
  have hkl := hK id n hn
  have hY := hRD _ _ hS
  have h1 := hY.d
  have hm := hY.m
  simp only [domC5] at h1
  refine enter Tryz.func56 rfl Tryz.ntmps56 rfl (fun a hk => ?_)
  (repeat' (first|((first|refine wx1 ?_|refine wx2 ?_ ?_<;>intro hp|refine s_end hk ?_)<;>(clear hk a;intro a hk))|((first|refine wx3 ?_;intro w b|refine wx4 ?_;intro w|refine wx5 ?_;intro w v);clear hk hS a;intro hS a hk)|refine wx0 ?_|fail))
  refine sg hk (g_lk5S hk hm hn ?_);clear hk a;intro a hk
  (repeat' (first|((first|refine wx1 ?_|refine wx2 ?_ ?_<;>intro hp|refine s_end hk ?_)<;>(clear hk a;intro a hk))|((first|refine wx3 ?_;intro w b|refine wx4 ?_;intro w|refine wx5 ?_;intro w v);clear hk hS a;intro hS a hk)|refine wx0 ?_|fail))
  refine sg hk (g_callvO (first := []) (cap := [pA bo]) hk (hf := hf) (hc := hc id n acc _ hn (by omega) hS) (h := ?_));clear hk hS a hY h1 hm;intro v17 w hS a hk
  have hY := hRD _ _ hS
  obtain ⟨h2, h4⟩ := ndsY.rd5 hY.n hn
  simp only [nodC] at h2
  (repeat' (first|((first|refine wx1 ?_|refine wx2 ?_ ?_<;>intro hp|refine s_end hk ?_)<;>(clear hk a;intro a hk))|((first|refine wx3 ?_;intro w b|refine wx4 ?_;intro w|refine wx5 ?_;intro w v);clear hk hS a;intro hS a hk)|refine wx0 ?_|fail))
  replace hk := Kn.kp [0, 2, 21, 22, 23] hk
  clear h2 h4 hY
  refine wp_for n.kids.length (fun i _ => [(23, .int .i64 (i : Int))]) (fun i _ => outH bo (acc ++ [n.id] ++ ((n.kids.take i).map (preN D.f)).flatten) :: L) (fun _ _ => True) () hk skx (by simpa using hS) trivial ?_
  clear hk hS a
  rintro i - a w hi hk hS -
  have hY := hRD _ _ hS
  have h4 := (ndsY.rd5 hY.n hn).2
  have h1 := hY.d
  simp only [domC5] at h1
  by_cases hil : i < n.kids.length
  ·obtain ⟨k, hx⟩ : ∃ k, n.kids[i]? = some k := ⟨_, List.getElem?_eq_getElem hil⟩
   have hmk := List.mem_of_getElem? hx
   obtain ⟨hf1, hf2⟩ := flat_take (preN D.f) hx
   (repeat' (first|((first|refine wx1 ?_|refine wx2 ?_ ?_<;>intro hp|refine s_end hk ?_)<;>(clear hk a;intro a hk))|((first|refine wx3 ?_;intro w b|refine wx4 ?_;intro w|refine wx5 ?_;intro w v);clear hk hS a;intro hS a hk)|refine wx0 ?_|fail))
   refine sg hk (g_callO hk (hf := by kernel_rfl) (hc := ih k ⟨n, hn, hmk⟩ (hC id n hn k hmk) _ _ (by rw [List.length_append, List.length_append, List.length_singleton];omega) hS) (h := ?_));clear hk hS a hY h1 h4;intro v30 w hS a hk
   rw [List.append_assoc (acc ++ [n.id]), ← hf2] at hS
   (repeat' (first|((first|refine wx1 ?_|refine wx2 ?_ ?_<;>intro hp|refine s_end hk ?_)<;>(clear hk a;intro a hk))|((first|refine wx3 ?_;intro w b|refine wx4 ?_;intro w|refine wx5 ?_;intro w v);clear hk hS a;intro hS a hk)|refine wx0 ?_|fail))
   exact ⟨hil, (), hk.sd, hS, trivial⟩
  ·have hii : i = n.kids.length := by omega
   subst hii
   rw [List.take_length] at hS
   (repeat' (first|((first|refine wx1 ?_|refine wx2 ?_ ?_<;>intro hp|refine s_end hk ?_)<;>(clear hk a;intro a hk))|((first|refine wx3 ?_;intro w b|refine wx4 ?_;intro w|refine wx5 ?_;intro w v);clear hk hS a;intro hS a hk)|refine wx0 ?_|fail))
   refine done0n hk (h := ?_)
   rw [hpre, fnd_id hn]
   rw [List.append_assoc, fnd_id hn] at hS
   exact hS
end Go.Proofs.YtgklceoodpocaaaGreatDoor
namespace Go.Proofs.YtgklceoodpocaaaGreatDoor
open Go.RowKit
set_option maxRecDepth 100000
attribute [local irreducible] Go.Code.wpIn Go.wpListIn Go.Calls Gives Go.Exit.then Go.Exit.inBlock Done ObxE
theorem out_more (l : List NodeP) (ks : List Int) (k : Int) : ousP (l.filter (fun x => decide (x.id ∉ ks))) k = l.filter (fun x => decide (x.id ∉ ks ++ [k])) := by
 unfold ousP
 rw [List.filter_filter]
 refine List.filter_congr fun x _ => ?_
 simp only [List.mem_append, List.mem_singleton, not_or, ne_eq]
 by_cases h1 : x.id = k <;> by_cases h2 : x.id ∈ ks <;> simp [h1, h2]
section
variable {B : Bs} {w : World} {L : List HP} {bd : Nat} {D : DomP} {K : Nat}
theorem remP_11 {id : Int} (h : D.f id = none) : remP D id = (D, 11) := by unfold remP; rw [h]
theorem remP_1 {n : NodeP} (hn : D.f 0 = some n) : remP D 0 = (D, 1) := by unfold remP; rw [hn]; rfl
theorem remP_0 {id : Int} {n : NodeP} (hn : D.f id = some n) (h : id ≠ 0) : remP D id = ({ D with l := remL D.l n }, 0) := by unfold remP; rw [hn]; simp only; rw [if_neg h]
set_option maxHeartbeats 8000000 in
theorem rem5_any (id : Int) (hW : WfD D) (hb : Bnd K D) (hK : K ≤ 800) (hS : St B (domH bd D :: L) w) :
  Calls Tryz.prog 25 #[pA bd, .int .i64 id] w (Ret fun r w' => r = .int .i64 (remP D id).2 ∧ St B (domH bd (remP D id).1 :: L) w') := by
 obtain ⟨bm, bl, hS1⟩ := hS.dom (bd := bd) (D := D) .here
 clear hS
 have hS := hS1
 clear hS1
 have hback : ∀ {w : World}, St B (domL bd D bm bl ++ L) w → St B (domH bd D :: L) w := fun h => domH.of h
 refine enter Tryz.func25 rfl Tryz.ntmps25 rfl (fun a hk => ?_)
 (repeat' (first|((first|refine wx1 ?_|refine wx2 ?_ ?_<;>intro hp|refine s_end hk ?_)<;>(clear hk a;intro a hk))|((first|refine wx3 ?_;intro w b|refine wx4 ?_;intro w|refine wx5 ?_;intro w v);clear hk hS a;intro hS a hk)|refine wx0 ?_|fail))
 cases hn : D.f id with
 | none =>
  rw [remP_11 hn]
  refine sg hk (g_lk5N hk (hS.rd (A := mapH encI (.map (some bm)) (mapL bl D.l)) atx) hn ?_);clear hk a;intro a hk
  (repeat' (first|((first|refine wx1 ?_|refine wx2 ?_ ?_<;>intro hp|refine s_end hk ?_)<;>(clear hk a;intro a hk))|((first|refine wx3 ?_;intro w b|refine wx4 ?_;intro w|refine wx5 ?_;intro w v);clear hk hS a;intro hS a hk)|refine wx0 ?_|fail))
  refine sg hk (g_pnE hk ?_ (by kernel_rfl));clear hk a;intro a hk
  simp only [Option.isNone_none] at hk
  (repeat' (first|((first|refine wx1 ?_|refine wx2 ?_ ?_<;>intro hp|refine s_end hk ?_)<;>(clear hk a;intro a hk))|((first|refine wx3 ?_;intro w b|refine wx4 ?_;intro w|refine wx5 ?_;intro w v);clear hk hS a;intro hS a hk)|refine wx0 ?_|fail))
  exact done1 hk (h := ⟨rfl, hback hS⟩)
 | some n =>
  refine sg hk (g_lk5S hk (hS.rd (A := mapH encI (.map (some bm)) (mapL bl D.l)) atx) hn ?_);clear hk a;intro a hk
  (repeat' (first|((first|refine wx1 ?_|refine wx2 ?_ ?_<;>intro hp|refine s_end hk ?_)<;>(clear hk a;intro a hk))|((first|refine wx3 ?_;intro w b|refine wx4 ?_;intro w|refine wx5 ?_;intro w v);clear hk hS a;intro hS a hk)|refine wx0 ?_|fail))
  refine sg hk (g_pnE hk ?_ (by kernel_rfl));clear hk a;intro a hk
  simp only [Option.isNone_some] at hk
  by_cases h0 : id = 0
  ·subst h0
   rw [remP_1 hn]
   (repeat' (first|((first|refine wx1 ?_|refine wx2 ?_ ?_<;>intro hp|refine s_end hk ?_)<;>(clear hk a;intro a hk))|((first|refine wx3 ?_;intro w b|refine wx4 ?_;intro w|refine wx5 ?_;intro w v);clear hk hS a;intro hS a hk)|refine wx0 ?_|fail))
   exact done1 hk (h := ⟨rfl, hback hS⟩)
  ·rw [remP_0 hn h0]
   have en : n.id = id := fnd_id hn
   have ef := lea_f hW hn
   have hlen := hb.len
   have hpl : (preN (fnP (leaP D.l n)) id).length ≤ D.l.length := by
    rw [ef, pre_cut hW.wf id id (.refl hn)]
    exact pre_len hW id
   have huD : ((leaP D.l n).map (·.id)).Nodup := by rw [lea_ids];exact hW.uni
   (repeat' (first|((first|refine wx1 ?_|refine wx2 ?_ ?_<;>intro hp|refine s_end hk ?_)<;>(clear hk a;intro a hk))|((first|refine wx3 ?_;intro w b|refine wx4 ?_;intro w|refine wx5 ?_;intro w v);clear hk hS a;intro hS a hk)|refine wx0 ?_|fail))
   refine sg hk (g_callO hk (hf := by kernel_rfl) (hc := leave5_any hW hb hK hn hS) (h := ?_));clear hk hS a;intro vl w hS a hk
   simp only [domL, domC5, List.cons_append, List.nil_append] at hS
   (repeat' (first|((first|refine wx1 ?_|refine wx2 ?_ ?_<;>intro hp|refine s_end hk ?_)<;>(clear hk a;intro a hk))|((first|refine wx3 ?_;intro w b|refine wx4 ?_;intro w|refine wx5 ?_;intro w v);clear hk hS a;intro hS a hk)|refine wx0 ?_|fail))
   rename Nat => bo
   have hS1 : St B (outH bo [] :: ndsH bl (leaP D.l n) :: pts bd [.int .i64 D.most, .int .i64 D.next, .map (some bm)] 67 :: mapH encI (.map (some bm)) (mapL bl (leaP D.l n)) :: L) w :=
    outH.of (y := (none, 0)) ((hS.nilT 3 Int).sub (.cons atx (.cons atx (.cons atx (.cons atx (.cons atx sbx))))))
   clear hS
   obtain ⟨yy, hS2⟩ := (hS1.sub (L' := ndsH bl (leaP D.l n) :: outH bo [] :: pts bd [.int .i64 D.most, .int .i64 D.next, .map (some bm)] 67 :: mapH encI (.map (some bm)) (mapL bl (leaP D.l n)) :: L) (.cons atx (.cons atx (.cons atx (.cons atx sbx))))).fix huD
   clear hS1
   have hS : St B (outH bo [] :: ndsY bl yy (leaP D.l n) :: pts bd [.int .i64 D.most, .int .i64 D.next, .map (some bm)] 67 :: mapH encI (.map (some bm)) (mapL bl (leaP D.l n)) :: L) w := hS2.sub (.cons atx (.cons atx (.cons atx (.cons atx sbx))))
   clear hS2
   refine sg hk (g_callO hk (hf := by kernel_rfl) (hc := each5_any (bd := bd) (bm := bm) (bl := bl) (yy := yy) (D := { D with l := leaP D.l n }) 57 (by kernel_rfl)
    (fun acc w h => ⟨h.rd (.there (.there .here)), h.rd (.there (.there (.there .here))), h.rd (.there .here)⟩)
    (fun i m acc w hm hl h => rem1_any bo (bl i) acc m (yy i) hl (fun w h => (ndsY.rd5 (h.rd .here) hm).1) h)
    (fun i => by show _root_.Acc (kidOf (fnP (leaP D.l n))) i;rw [ef];exact cut_acc hW.wf id i)
    (fun i m hm k hk => by
     have hm : fnP (leaP D.l n) i = some m := hm
     rw [ef] at hm
     obtain ⟨m0, hm0, rfl⟩ := cutN_some hm
     obtain ⟨c, hc, -⟩ := hW.wf.down i m0 hm0 k (cut_mem.1 hk).1
     exact ⟨_, by show fnP (leaP D.l n) k = _;rw [ef];exact cutN_of hc⟩)
    (fun i m hm => by
     have hm : fnP (leaP D.l n) i = some m := hm
     rw [ef] at hm
     obtain ⟨m0, hm0, rfl⟩ := cutN_some hm
     have h1 := (hb.get hm0).kids
     have h2 : (cutK id m0).kids.length ≤ m0.kids.length := List.length_filter_le _ _
     omega)
    id ⟨_, by show fnP (leaP D.l n) id = _;rw [ef];exact cutN_of hn⟩ [] _ (by show 0 + (preN (fnP (leaP D.l n)) id).length ≤ 10000;omega) hS) (h := ?_));clear hk hS a;intro v27 w hS a hk
   replace hS : St B (outH bo ([] ++ preN (fnP (leaP D.l n)) id) :: ndsY bl yy (leaP D.l n) :: pts bd [.int .i64 D.most, .int .i64 D.next, .map (some bm)] 67 :: mapH encI (.map (some bm)) (mapL bl (leaP D.l n)) :: L) w := hS
   rw [List.nil_append] at hS
   have eg : remL D.l n = (leaP D.l n).filter (fun x => decide (x.id ∉ preN (fnP (leaP D.l n)) id)) := by unfold remL;rw [en]
   rw [eg]
   clear eg ef
   generalize preN (fnP (leaP D.l n)) id = gone at *
   generalize leaP D.l n = l1 at *
   obtain ⟨ao, co, hS1⟩ := hS.out5 (bo := bo) (acc := gone) .here
   clear hS
   have hS2 := ndsY.un (bl := bl) (l := l1) (yy := yy) (hS1.sub (L' := ndsY bl yy l1 :: pts bo [.slice ao gone.length co] 69 :: OwT 3 gone (.slice ao gone.length co) :: pts bd [.int .i64 D.most, .int .i64 D.next, .map (some bm)] 67 :: mapH encI (.map (some bm)) (mapL bl l1) :: L) (by simp only [outL, List.cons_append, List.nil_append];exact (.cons atx (.cons atx (.cons atx (.cons atx (.cons atx sbx)))))))
   clear hS1
   have hS := hS2
   clear hS2
   (repeat' (first|((first|refine wx1 ?_|refine wx2 ?_ ?_<;>intro hp|refine s_end hk ?_)<;>(clear hk a;intro a hk))|((first|refine wx3 ?_;intro w b|refine wx4 ?_;intro w|refine wx5 ?_;intro w v);clear hk hS a;intro hS a hk)|refine wx0 ?_|fail))
   replace hk := Kn.kp [0, 28, 29, 30] hk
   refine wp_for gone.length (fun i _ => [(30, .int .i64 (i : Int))]) (fun i _ => mapH encI (.map (some bm)) (mapL bl (l1.filter (fun x => decide (x.id ∉ gone.take i)))) :: pts bd [.int .i64 D.most, .int .i64 D.next, .map (some bm)] 67 :: OwT 3 gone (.slice ao gone.length co) :: ndsH bl l1 :: L) (fun _ _ => True) () hk skx (by
    rw [show l1.filter (fun x => decide (x.id ∉ gone.take 0)) = l1 from List.filter_eq_self.2 (fun x _ => by simp)]
    exact hS.sub (.cons atx (.cons atx (.cons atx (.cons atx sbx))))) trivial ?_
   clear hk hS a
   rintro i - a w hi hk hS -
   by_cases hil : i < gone.length
   ·obtain ⟨k, hx⟩ : ∃ k, gone[i]? = some k := ⟨_, List.getElem?_eq_getElem hil⟩
    (repeat' (first|((first|refine wx1 ?_|refine wx2 ?_ ?_<;>intro hp|refine s_end hk ?_)<;>(clear hk a;intro a hk))|((first|refine wx3 ?_;intro w b|refine wx4 ?_;intro w|refine wx5 ?_;intro w v);clear hk hS a;intro hS a hk)|refine wx0 ?_|fail))
    refine su hk (g_delete (k := k) hk hS ?_ rfl (mT rfl) keyI);clear hk hS a;intro w hS a hk
    rw [delL_mapL (huD.sublist (List.Sublist.map _ List.filter_sublist)), out_more, ← take_snoc hx] at hS
    (repeat' (first|((first|refine wx1 ?_|refine wx2 ?_ ?_<;>intro hp|refine s_end hk ?_)<;>(clear hk a;intro a hk))|((first|refine wx3 ?_;intro w b|refine wx4 ?_;intro w|refine wx5 ?_;intro w v);clear hk hS a;intro hS a hk)|refine wx0 ?_|fail))
    exact ⟨hil, (), hk.sd, hS, trivial⟩
   ·have hii : i = gone.length := by omega
    subst hii
    rw [List.take_length] at hS
    (repeat' (first|((first|refine wx1 ?_|refine wx2 ?_ ?_<;>intro hp|refine s_end hk ?_)<;>(clear hk a;intro a hk))|((first|refine wx3 ?_;intro w b|refine wx4 ?_;intro w|refine wx5 ?_;intro w v);clear hk hS a;intro hS a hk)|refine wx0 ?_|fail))
    refine done1 hk (h := ⟨rfl, domH.of (bm := bm) (bl := bl) ?_⟩)
    have h2 := ndsH.less (bl := bl) (l := l1) (l' := l1.filter (fun x => decide (x.id ∉ gone))) List.filter_sublist (hS.sub (L' := ndsH bl l1 :: mapH encI (.map (some bm)) (mapL bl (l1.filter (fun x => decide (x.id ∉ gone)))) :: pts bd [.int .i64 D.most, .int .i64 D.next, .map (some bm)] 67 :: L) (.cons atx (.cons atx (.cons atx sbx))))
    exact h2.sub (.cons atx (.cons atx (.cons atx sbx)))
end
end Go.Proofs.YtgklceoodpocaaaGreatDoor
