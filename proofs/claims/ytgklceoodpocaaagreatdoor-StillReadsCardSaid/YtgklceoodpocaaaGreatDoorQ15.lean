/- Layer 5, the reference: a node is removed. Layer 4: names with values, of both kinds, are set. -/
import Derived.Test.YtgklceoodpocaaaGreatDoorQ14
import Derived.Test.YtgklceoodpocaaaGreatDoorQ08
set_option linter.all false
namespace Go.Proofs.YtgklceoodpocaaaGreatDoor
open Go.RowKit
set_option maxRecDepth 100000
attribute [local irreducible] Go.Code.wpIn Go.wpListIn Go.Calls Gives Go.Exit.then Go.Exit.inBlock Done ObxE
section
variable {B : Bs} {w : World} {L : List HP} {D : DomP} {K : Nat} {r0 : Value}
theorem lea_facts {id : Int} {n : NodeP} (hW : WfD D) (hb : Bnd K D) (hn : D.f id = some n) : (∀ i, _root_.Acc (kidOf (fnP (leaP D.l n))) i) ∧ (∀ i m, fnP (leaP D.l n) i = some m → ∀ k ∈ m.kids, ∃ c, fnP (leaP D.l n) k = some c) ∧
  (∀ i m, fnP (leaP D.l n) i = some m → m.kids.length ≤ K) ∧ (∃ n1, fnP (leaP D.l n) id = some n1) ∧ (preN (fnP (leaP D.l n)) id).length ≤ D.l.length := by
 have ef := lea_f hW hn
 rw [ef]
 refine ⟨cut_acc hW.wf id, fun i m hm k hk => ?_, fun i m hm => ?_, ⟨_, cutN_of hn⟩, ?_⟩
 ·obtain ⟨m0, hm0, rfl⟩ := cutN_some hm
  obtain ⟨c, hc, -⟩ := hW.wf.down i m0 hm0 k (cut_mem.1 hk).1
  exact ⟨_, cutN_of hc⟩
 ·obtain ⟨m0, hm0, rfl⟩ := cutN_some hm
  have h1 := (hb.get hm0).kids
  have h2 : (cutK id m0).kids.length ≤ m0.kids.length := List.length_filter_le _ _
  omega
 ·rw [pre_cut hW.wf id id (.refl hn)]
  exact pre_len hW id
set_option maxHeartbeats 16000000 in
theorem rrem5_any (id : Int) (hW : WfD D) (hb : Bnd K D) (hK : K ≤ 800) (hS : St B (refO D r0 :: L) w) :
  Calls Tryz.prog 26 #[r0, .int .i64 id] w (Ret fun v w' => ∃ r, v = .tuple #[r, .int .i64 (remP D id).2] ∧ St B (refO (remP D id).1 r :: L) w') := by
 obtain ⟨H, ao, c, rfl, hS1⟩ := hS.refO .here
 clear hS
 have hS := hS1
 clear hS1
 have hRd := hS.rdr .here
 have hHl := hRd.2.len
 have hlen := hb.len
 have hret : ∀ {w : World} {X : List HP}, Sub (rdH (Rd5R D H ao c) :: L) X → St B X w → St B (refO D (rdV D H.length ao c) :: L) w := fun hs h => refO.of (h.sub hs)
 have hRn := hRd.2
 clear hRd
 refine enter Tryz.func26 rfl Tryz.ntmps26 rfl (fun a hk => ?_)
 refine wpIn_seq ?_;refine wpIn_region_lit ?_
 refine st_box hk hS ?_;clear hk hS a;intro w b2 hS a hk
 refine st_alloc hk hS ?_;clear hk hS a;intro w b4 hS a hk
 (repeat' (first|((first|refine wx1 ?_|refine wx2 ?_ ?_<;>intro hp|refine s_end hk ?_)<;>(clear hk a;intro a hk))|((first|refine wx3 ?_;intro w b|refine wx4 ?_;intro w|refine wx5 ?_;intro w v);clear hk hS a;intro hS a hk)|refine wx0 ?_|fail))
 refine sg hk (g_callO hk (hf := by kernel_rfl) (hc := rfind5_any D.most D.next H _ id _ (hS.rdr (D := D) (H := H) (ao := ao) (c := c) atx).1 (by omega)) (h := ?_));clear hk a;rintro _ w ⟨rfl, hS1⟩ a hk;replace hS := hS.call0 hS1;clear hS1
 cases hn : D.f id with
 | none =>
  rw [remP_11 hn]
  rw [hRn.non hn] at hk
  simp only [Option.getD_none, Option.isSome_none] at hk
  (repeat' (first|((first|refine wx1 ?_|refine wx2 ?_ ?_<;>intro hp|refine s_end hk ?_)<;>(clear hk a;intro a hk))|((first|refine wx3 ?_;intro w b|refine wx4 ?_;intro w|refine wx5 ?_;intro w v);clear hk hS a;intro hS a hk)|refine wx0 ?_|fail))
  exact done2R hk rfl (.str hS (hT := aT rfl) (hs := zT rfl)) (.tmp rfl) (h := ⟨_, rfl, hret (.cons atx sbx) hS⟩)
 | some n =>
  obtain ⟨x, hxn, hrn⟩ := hRn.fnd hn
  obtain ⟨a5, c5, a6, c6, a7, c7, a8, c8, rfl, -⟩ := hrn
  rw [hxn] at hk
  simp only [Option.getD_some, Option.isSome_some] at hk
  by_cases h0 : id = 0
  ·subst h0
   rw [remP_1 hn]
   (repeat' (first|((first|refine wx1 ?_|refine wx2 ?_ ?_<;>intro hp|refine s_end hk ?_)<;>(clear hk a;intro a hk))|((first|refine wx3 ?_;intro w b|refine wx4 ?_;intro w|refine wx5 ?_;intro w v);clear hk hS a;intro hS a hk)|refine wx0 ?_|fail))
   exact done2R hk rfl (.str hS (hT := aT rfl) (hs := zT rfl)) (.tmp rfl) (h := ⟨_, rfl, hret (.cons atx sbx) hS⟩)
  ·rw [remP_0 hn h0]
   have en : n.id = id := fnd_id hn
   obtain ⟨hA, hC, hK0, ⟨n1, hn1⟩, hpl⟩ := lea_facts hW hb hn
   have hK5 : ∀ i m, fnP (leaP D.l n) i = some m → m.kids.length ≤ 1000 := fun i m hm => by have := hK0 i m hm;omega
   clear hK0
   (repeat' (first|((first|refine wx1 ?_|refine wx2 ?_ ?_<;>intro hp|refine s_end hk ?_)<;>(clear hk a;intro a hk))|((first|refine wx3 ?_;intro w b|refine wx4 ?_;intro w|refine wx5 ?_;intro w v);clear hk hS a;intro hS a hk)|refine wx0 ?_|fail))
   refine sg hk (g_callO hk (hf := by kernel_rfl) (hc := rfind5_any D.most D.next H _ n.par _ (hS.rdr (D := D) (H := H) (ao := ao) (c := c) atx).1 (by omega)) (h := ?_));clear hk a;rintro _ w ⟨rfl, hS1⟩ a hk;replace hS := hS.call0 hS1;clear hS1
   cases hp : D.f n.par with
   | none =>
    have el : leaP D.l n = D.l := by unfold leaP;rw [show fnP D.l n.par = none from hp]
    rw [hRn.non hp] at hk
    simp only [Option.getD_none, Option.isSome_none] at hk
    have hS1 : St B _ w := hS
    have eD : D = { D with l := leaP D.l n } := by rw [el]
    have eR : rdH (Rd5R D H ao c) = rdH (Rd5R { D with l := leaP D.l n } H ao c) := by rw [← eD]
    rw [eR] at hS
    clear hS1 hret eR
    generalize hH1 : H = H1 at *
    generalize ao = ax at *
    generalize c = cx at *
    (repeat' (first|((first|refine wx1 ?_|refine wx2 ?_ ?_<;>intro hp|refine s_end hk ?_)<;>(clear hk a;intro a hk))|((first|refine wx3 ?_;intro w b|refine wx4 ?_;intro w|refine wx5 ?_;intro w v);clear hk hS a;intro hS a hk)|refine wx0 ?_|fail))
    refine sg hk (g_callO hk (hf := by kernel_rfl) (hc := rbelow5_any (most := D.most) (next := D.next) (l := leaP D.l n) (H := H1) (v := .slice ax H1.length cx) (by omega) hA hC hK5 id n1 _ hn1 (by omega) (hS.rdr (D := { D with l := leaP D.l n }) (H := H1) (ao := ax) (c := cx) atx).1 (hS.rdr (D := { D with l := leaP D.l n }) (H := H1) (ao := ax) (c := cx) atx).2) (h := ?_));clear hk a;rintro vg w hS1 a hk;replace hS := hS.call hS1;clear hS1
    rw [List.cons_append, List.nil_append] at hS
    generalize hGe : preN (fnP (leaP D.l n)) id = gone at *
    obtain ⟨aovg, cvg, hshp, _⟩ := (OwT.rd (hS.rd (A := OwT 3 _ vg) atx)).shape;subst hshp
    (repeat' (first|((first|refine wx1 ?_|refine wx2 ?_ ?_<;>intro hp|refine s_end hk ?_)<;>(clear hk a;intro a hk))|((first|refine wx3 ?_;intro w b|refine wx4 ?_;intro w|refine wx5 ?_;intro w v);clear hk hS a;intro hS a hk)|refine wx0 ?_|fail))
    refine sg hk (g_bs0 RnH hS ?_ (hT := eT rfl) (hE := zT rfl));clear hk hS a;intro w v48 hS a hk
    (repeat' (first|((first|refine wx1 ?_|refine wx2 ?_ ?_<;>intro hp|refine s_end hk ?_)<;>(clear hk a;intro a hk))|((first|refine wx3 ?_;intro w b|refine wx4 ?_;intro w|refine wx5 ?_;intro w v);clear hk hS a;intro hS a hk)|refine wx0 ?_|fail))
    have hv1 : SlT H1 (.slice ax H1.length cx) w := (hS.rdr (D := { D with l := leaP D.l n }) (H := H1) (ao := ax) (c := cx) atx).1
    (repeat' (first|((first|refine wx1 ?_|refine wx2 ?_ ?_<;>intro hp|refine s_end hk ?_)<;>(clear hk a;intro a hk))|((first|refine wx3 ?_;intro w b|refine wx4 ?_;intro w|refine wx5 ?_;intro w v);clear hk hS a;intro hS a hk)|refine wx0 ?_|fail))
    clear hv1
    replace hk := Kn.kp [2, 4, 10, 11, 50, 51, 52] hk
    refine wp_for H1.length (fun i v => [(11, v), (52, .int .i64 (i : Int))]) (fun i v => OwT 73 ((H1.take i).filter (fun h => decide (h.1 ∉ gone))) v :: OwT 3 gone (.slice aovg gone.length cvg) :: pts b2 [.int .i64 D.most, .int .i64 D.next, .slice ax H1.length cx] 28 :: pts b4 [.int .i64 0, .int .i64 0, .slice none 0 0] 28 :: rdH (Rd5R { D with l := leaP D.l n } H1 ax cx) :: L) (fun _ _ => True) v48 hk skx (hS.sub (.cons atx (.cons atx (.cons atx (.cons atx (.cons atx sbx)))))) trivial ?_
    clear hk hS a
    rintro i vo a w hi hk hS -
    have hv1 : SlT H1 (.slice ax H1.length cx) w := (hS.rdr (D := { D with l := leaP D.l n }) (H := H1) (ao := ax) (c := cx) atx).1
    have hfl : ((H1.take i).filter (fun h => decide (h.1 ∉ gone))).length ≤ i := Nat.le_trans (List.length_filter_le _ _) (by rw [List.length_take];omega)
    by_cases hil : i < H1.length
    ·obtain ⟨e, hx⟩ : ∃ x, H1[i]? = some x := ⟨_, List.getElem?_eq_getElem hil⟩
     have hst : (H1.take (i + 1)).filter (fun h => decide (h.1 ∉ gone)) = (H1.take i).filter (fun h => decide (h.1 ∉ gone)) ++ [e].filter (fun h => decide (h.1 ∉ gone)) := by rw [take_snoc hx, List.filter_append]
     obtain ⟨id0, k0, tag0, text0, ⟨x10, x20, x30⟩, ⟨y10, y20, y30⟩, ⟨z10, z20, z30⟩, p0, ⟨u10, u20, u30⟩⟩ := e
     (repeat' (first|((first|refine wx1 ?_|refine wx2 ?_ ?_<;>intro hp|refine s_end hk ?_)<;>(clear hk a;intro a hk))|((first|refine wx3 ?_;intro w b|refine wx4 ?_;intro w|refine wx5 ?_;intro w v);clear hk hS a;intro hS a hk)|refine wx0 ?_|fail))
     clear hv1
     rename Nat => b13
     have hS1 := hS.sub (L' := pts b13 [.int .i64 id0, .int .i64 k0, .string tag0, .string text0, .slice x10 x20 x30, .slice y10 y20 y30, .slice z10 z20 z30, .int .i64 p0, .slice u10 u20 u30] 73 :: OwT 73 ((H1.take i).filter (fun h => decide (h.1 ∉ gone))) vo :: OwT 3 gone (.slice aovg gone.length cvg) :: pts b2 [.int .i64 D.most, .int .i64 D.next, .slice ax H1.length cx] 28 :: pts b4 [.int .i64 0, .int .i64 0, .slice none 0 0] 28 :: rdH (Rd5R { D with l := leaP D.l n } H1 ax cx) :: L) (.cons atx (.cons atx (.cons atx (.cons atx (.cons atx (.cons atx sbx))))))
     clear hS
     have hS := hS1
     clear hS1
     replace hk := Kn.kp [2, 4, 10, 11, 13, 14, 50, 51, 52, 56, 57, 58] hk
     refine wp_for gone.length (fun j b => [(14, .bool b), (58, .int .i64 (j : Int))]) (fun _ _ => pts b13 [.int .i64 id0, .int .i64 k0, .string tag0, .string text0, .slice x10 x20 x30, .slice y10 y20 y30, .slice z10 z20 z30, .int .i64 p0, .slice u10 u20 u30] 73 :: OwT 73 ((H1.take i).filter (fun h => decide (h.1 ∉ gone))) vo :: OwT 3 gone (.slice aovg gone.length cvg) :: pts b2 [.int .i64 D.most, .int .i64 D.next, .slice ax H1.length cx] 28 :: pts b4 [.int .i64 0, .int .i64 0, .slice none 0 0] 28 :: rdH (Rd5R { D with l := leaP D.l n } H1 ax cx) :: L) (fun j b => b = decide (id0 ∉ gone.take j)) true hk skx hS (by simp) ?_
     clear hk hS a
     rintro j st a w hj hk hS hb0
     by_cases hjl : j < gone.length
     ·obtain ⟨k, hxk⟩ : ∃ k, gone[j]? = some k := ⟨_, List.getElem?_eq_getElem hjl⟩
      have htk : gone.take (j + 1) = gone.take j ++ [k] := take_snoc hxk
      cases st with
      | false =>
       (repeat' (first|((first|refine wx1 ?_|refine wx2 ?_ ?_<;>intro hp|refine s_end hk ?_)<;>(clear hk a;intro a hk))|((first|refine wx3 ?_;intro w b|refine wx4 ?_;intro w|refine wx5 ?_;intro w v);clear hk hS a;intro hS a hk)|refine wx0 ?_|fail))
       refine ⟨hjl, false, hk.sd, hS, ?_⟩
       rw [htk]
       have h1 : id0 ∈ gone.take j := by simpa using hb0.symm
       simp [h1]
      | true =>
       have h1 : id0 ∉ gone.take j := by simpa using hb0.symm
       by_cases he : k = id0
       ·(repeat' (first|((first|refine wx1 ?_|refine wx2 ?_ ?_<;>intro hp|refine s_end hk ?_)<;>(clear hk a;intro a hk))|((first|refine wx3 ?_;intro w b|refine wx4 ?_;intro w|refine wx5 ?_;intro w v);clear hk hS a;intro hS a hk)|refine wx0 ?_|fail))
        refine ⟨hjl, false, hk.sd, hS, ?_⟩
        rw [htk, he]
        simp
       ·(repeat' (first|((first|refine wx1 ?_|refine wx2 ?_ ?_<;>intro hp|refine s_end hk ?_)<;>(clear hk a;intro a hk))|((first|refine wx3 ?_;intro w b|refine wx4 ?_;intro w|refine wx5 ?_;intro w v);clear hk hS a;intro hS a hk)|refine wx0 ?_|fail))
        refine ⟨hjl, true, hk.sd, hS, ?_⟩
        rw [htk]
        simp only [List.mem_append, List.mem_singleton, not_or]
        exact (decide_eq_true ⟨h1, fun e => he e.symm⟩).symm
     ·have hjj : j = gone.length := by omega
      subst hjj
      rw [List.take_length] at hb0
      cases st with
      | false =>
       have h1 : id0 ∈ gone := by simpa using hb0.symm
       rw [show [((id0, k0, tag0, text0, ⟨x10, x20, x30⟩, ⟨y10, y20, y30⟩, ⟨z10, z20, z30⟩, p0, ⟨u10, u20, u30⟩) : RnH)].filter (fun h => decide (h.1 ∉ gone)) = [] by simp [h1], List.append_nil] at hst
       (repeat' (first|((first|refine wx1 ?_|refine wx2 ?_ ?_<;>intro hp|refine s_end hk ?_)<;>(clear hk a;intro a hk))|((first|refine wx3 ?_;intro w b|refine wx4 ?_;intro w|refine wx5 ?_;intro w v);clear hk hS a;intro hS a hk)|refine wx0 ?_|fail))
       exact ⟨hil, vo, hk.sd, by rw [hst];exact hS.sub (.cons atx (.cons atx (.cons atx (.cons atx (.cons atx sbx))))), trivial⟩
      | true =>
       have h1 : id0 ∉ gone := by simpa using hb0.symm
       rw [show [((id0, k0, tag0, text0, ⟨x10, x20, x30⟩, ⟨y10, y20, y30⟩, ⟨z10, z20, z30⟩, p0, ⟨u10, u20, u30⟩) : RnH)].filter (fun h => decide (h.1 ∉ gone)) = [(id0, k0, tag0, text0, ⟨x10, x20, x30⟩, ⟨y10, y20, y30⟩, ⟨z10, z20, z30⟩, p0, ⟨u10, u20, u30⟩)] by simp [h1]] at hst
       generalize (H1.take i).filter (fun h => decide (h.1 ∉ gone)) = Y at *
       generalize (H1.take (i + 1)).filter (fun h => decide (h.1 ∉ gone)) = Y2 at *
       subst hst
       (repeat' (first|((first|refine wx1 ?_|refine wx2 ?_ ?_<;>intro hp|refine s_end hk ?_)<;>(clear hk a;intro a hk))|((first|refine wx3 ?_;intro w b|refine wx4 ?_;intro w|refine wx5 ?_;intro w v);clear hk hS a;intro hS a hk)|refine wx0 ?_|fail))
       refine sg hk (g_bsT (xs := [((id0, k0, tag0, text0, ⟨x10, x20, x30⟩, ⟨y10, y20, y30⟩, ⟨z10, z20, z30⟩, p0, ⟨u10, u20, u30⟩) : RnH)]) (m := 0) hk hS ?_ (hT := eT rfl) (hE := zT rfl) (hz := oT rfl));clear hk hS a;intro w v hS a hk;refine sg hk (g_appD hk hS ?_ (hT := eT rfl) (hTx := eT rfl) (hE := zT rfl) (hz := oT rfl) (hzs := rfl) (hby := bT rfl) (hbytes := (by simp only [List.length_cons, List.length_nil];omega)) (h63 := (by simp only [List.length_cons, List.length_nil, maxLen];omega)));clear hk hS a;intro w v hS a hk
       (repeat' (first|((first|refine wx1 ?_|refine wx2 ?_ ?_<;>intro hp|refine s_end hk ?_)<;>(clear hk a;intro a hk))|((first|refine wx3 ?_;intro w b|refine wx4 ?_;intro w|refine wx5 ?_;intro w v);clear hk hS a;intro hS a hk)|refine wx0 ?_|fail))
       exact ⟨hil, _, hk.sd, hS.sub (.cons atx (.cons atx (.cons atx (.cons atx (.cons atx sbx))))), trivial⟩
    ·have hii : i = H1.length := by omega
     subst hii
     rw [List.take_length] at hS
     clear hv1
     obtain ⟨aovo, cvo, hshp, _⟩ := (OwT.rd (hS.rd (A := OwT 73 _ vo) atx)).shape;subst hshp
     (repeat' (first|((first|refine wx1 ?_|refine wx2 ?_ ?_<;>intro hp|refine s_end hk ?_)<;>(clear hk a;intro a hk))|((first|refine wx3 ?_;intro w b|refine wx4 ?_;intro w|refine wx5 ?_;intro w v);clear hk hS a;intro hS a hk)|refine wx0 ?_|fail))
     refine done2R hk rfl (.str hS (hT := aT rfl) (hs := zT rfl)) (.tmp rfl) (h := ⟨_, rfl, ?_⟩)
     have er : remL D.l n = (leaP D.l n).filter (fun x => decide (x.id ∉ gone)) := by unfold remL;rw [en, hGe]
     rw [er]
     refine refO.of (D := { D with l := (leaP D.l n).filter (fun x => decide (x.id ∉ gone)) }) (H := H1.filter (fun h => decide (h.1 ∉ gone))) (ao := aovo) (c := cvo) (rdH.of (L1 := [OwT 73 (H1.filter (fun h => decide (h.1 ∉ gone))) (.slice aovo (H1.filter (fun h => decide (h.1 ∉ gone))).length cvo), rdH (Rd5R { D with l := leaP D.l n } H1 ax cx)]) (hS.sub (.cons atx (.cons atx sbx))) fun g hg => ?_)
     have g1 := OwT.rd (hg (OwT 73 (H1.filter (fun h => decide (h.1 ∉ gone))) (.slice aovo (H1.filter (fun h => decide (h.1 ∉ gone))).length cvo)) (by simp))
     have g3 := rdH.rd (Rd5R.stays { D with l := leaP D.l n } H1 ax cx) (hg (rdH (Rd5R { D with l := leaP D.l n } H1 ax cx)) (by simp))
     exact ⟨g1, g3.2.filter (fun i => decide (i ∉ gone))⟩
   | some p =>
    obtain ⟨x, hxp, hrp⟩ := hRn.fnd hp
    obtain ⟨a1, c1, a2, c2, a3, c3, a4, c4, rfl, -⟩ := hrp
    rw [hxp] at hk
    simp only [Option.getD_some, Option.isSome_some] at hk
    have bk := (hb.get hp).kids
    have el : leaP D.l n = putP D.l { p with kids := woP p.kids n.id } := by unfold leaP;rw [show fnP D.l n.par = some p from hp]
    (repeat' (first|((first|refine wx1 ?_|refine wx2 ?_ ?_<;>intro hp|refine s_end hk ?_)<;>(clear hk a;intro a hk))|((first|refine wx3 ?_;intro w b|refine wx4 ?_;intro w|refine wx5 ?_;intro w v);clear hk hS a;intro hS a hk)|refine wx0 ?_|fail))
    refine sg hk (g_callO hk (hf := by kernel_rfl) (hc := rwo5_any p.kids id _ _ ((fnd_at (hS.rdr (D := D) (H := H) (ao := ao) (c := c) atx) hp hxp).kids5) (by omega)) (h := ?_));clear hk a;rintro vk w hS1 a hk;replace hS := hS.call hS1;clear hS1
    rw [List.cons_append, List.nil_append] at hS
    obtain ⟨aovk, cvk, hshp, _⟩ := (OwT.rd (hS.rd (A := OwT 3 _ vk) atx)).shape;subst hshp
    (repeat' (first|((first|refine wx1 ?_|refine wx2 ?_ ?_<;>intro hp|refine s_end hk ?_)<;>(clear hk a;intro a hk))|((first|refine wx3 ?_;intro w b|refine wx4 ?_;intro w|refine wx5 ?_;intro w v);clear hk hS a;intro hS a hk)|refine wx0 ?_|fail))
    refine sg hk (g_callO hk (hf := by kernel_rfl) (hc := rputO_any D.most D.next H _ (p.id, p.kind, p.tag, p.text, ⟨a1, p.cls.length, c1⟩, ⟨a2, p.att.length, c2⟩, ⟨a3, p.sty.length, c3⟩, p.par, ⟨aovk, (woP p.kids id).length, cvk⟩) _ (hS.rdr (D := D) (H := H) (ao := ao) (c := c) atx).1 (by omega)) (h := ?_));clear hk a;rintro vp w hS1 a hk;replace hS := hS.call hS1;clear hS1
    rw [List.cons_append, List.nil_append] at hS
    obtain ⟨ax, cx, rfl, hS1⟩ := hS.putO (r := vp) atx
    clear hS
    have hS := hS1
    clear hS1
    have hH1l := putR_len H (p.id, p.kind, p.tag, p.text, ⟨a1, p.cls.length, c1⟩, ⟨a2, p.att.length, c2⟩, ⟨a3, p.sty.length, c3⟩, p.par, ⟨aovk, (woP p.kids id).length, cvk⟩)
    (repeat' (first|((first|refine wx1 ?_|refine wx2 ?_ ?_<;>intro hp|refine s_end hk ?_)<;>(clear hk a;intro a hk))|((first|refine wx3 ?_;intro w b|refine wx4 ?_;intro w|refine wx5 ?_;intro w v);clear hk hS a;intro hS a hk)|refine wx0 ?_|fail))
    have hS1 : St B (rdH (Rd5R { D with l := leaP D.l n } (putR H (p.id, p.kind, p.tag, p.text, ⟨a1, p.cls.length, c1⟩, ⟨a2, p.att.length, c2⟩, ⟨a3, p.sty.length, c3⟩, p.par, ⟨aovk, (woP p.kids id).length, cvk⟩)) ax cx) :: pts b2 [.int .i64 D.most, .int .i64 D.next, .slice ax (putR H (p.id, p.kind, p.tag, p.text, ⟨a1, p.cls.length, c1⟩, ⟨a2, p.att.length, c2⟩, ⟨a3, p.sty.length, c3⟩, p.par, ⟨aovk, (woP p.kids id).length, cvk⟩)).length cx] 28 :: pts b4 [.int .i64 0, .int .i64 0, .slice none 0 0] 28 :: L) w := rdH.of (L1 := [OwT 73 (putR H (p.id, p.kind, p.tag, p.text, ⟨a1, p.cls.length, c1⟩, ⟨a2, p.att.length, c2⟩, ⟨a3, p.sty.length, c3⟩, p.par, ⟨aovk, (woP p.kids id).length, cvk⟩)) (.slice ax (putR H (p.id, p.kind, p.tag, p.text, ⟨a1, p.cls.length, c1⟩, ⟨a2, p.att.length, c2⟩, ⟨a3, p.sty.length, c3⟩, p.par, ⟨aovk, (woP p.kids id).length, cvk⟩)).length cx), OwT 3 (woP p.kids id) (.slice aovk (woP p.kids id).length cvk), rdH (Rd5R D H ao c)]) (hS.sub (.cons atx (.cons atx (.cons atx (.cons atx (.cons atx sbx)))))) fun g hg => by
     have g1 := OwT.rd (hg (OwT 73 (putR H (p.id, p.kind, p.tag, p.text, ⟨a1, p.cls.length, c1⟩, ⟨a2, p.att.length, c2⟩, ⟨a3, p.sty.length, c3⟩, p.par, ⟨aovk, (woP p.kids id).length, cvk⟩)) (.slice ax (putR H (p.id, p.kind, p.tag, p.text, ⟨a1, p.cls.length, c1⟩, ⟨a2, p.att.length, c2⟩, ⟨a3, p.sty.length, c3⟩, p.par, ⟨aovk, (woP p.kids id).length, cvk⟩)).length cx)) (by simp))
     have g2 := OwT.rd (hg (OwT 3 (woP p.kids id) (.slice aovk (woP p.kids id).length cvk)) (by simp))
     have g3 := rdH.rd (Rd5R.stays D H ao c) (hg (rdH (Rd5R D H ao c)) (by simp))
     obtain ⟨s1, s2, s3, -⟩ := (fnd_at g3 hp hxp).four
     refine ⟨g1, ?_⟩
     show RowsR g (leaP D.l n) _
     rw [el, en]
     exact RowsR.put (n := { p with kids := woP p.kids id }) g3.2 ⟨a1, c1, a2, c2, a3, c3, aovk, cvk, rfl, s1, s2, s3, g2⟩
    clear hS
    have hS := hS1
    clear hS1 hret hRn hxp
    generalize putR H (p.id, p.kind, p.tag, p.text, ⟨a1, p.cls.length, c1⟩, ⟨a2, p.att.length, c2⟩, ⟨a3, p.sty.length, c3⟩, p.par, ⟨aovk, (woP p.kids id).length, cvk⟩) = H1 at *
    (repeat' (first|((first|refine wx1 ?_|refine wx2 ?_ ?_<;>intro hp|refine s_end hk ?_)<;>(clear hk a;intro a hk))|((first|refine wx3 ?_;intro w b|refine wx4 ?_;intro w|refine wx5 ?_;intro w v);clear hk hS a;intro hS a hk)|refine wx0 ?_|fail))
    refine sg hk (g_callO hk (hf := by kernel_rfl) (hc := rbelow5_any (most := D.most) (next := D.next) (l := leaP D.l n) (H := H1) (v := .slice ax H1.length cx) (by omega) hA hC hK5 id n1 _ hn1 (by omega) (hS.rdr (D := { D with l := leaP D.l n }) (H := H1) (ao := ax) (c := cx) atx).1 (hS.rdr (D := { D with l := leaP D.l n }) (H := H1) (ao := ax) (c := cx) atx).2) (h := ?_));clear hk a;rintro vg w hS1 a hk;replace hS := hS.call hS1;clear hS1
    rw [List.cons_append, List.nil_append] at hS
    generalize hGe : preN (fnP (leaP D.l n)) id = gone at *
    obtain ⟨aovg, cvg, hshp, _⟩ := (OwT.rd (hS.rd (A := OwT 3 _ vg) atx)).shape;subst hshp
    (repeat' (first|((first|refine wx1 ?_|refine wx2 ?_ ?_<;>intro hp|refine s_end hk ?_)<;>(clear hk a;intro a hk))|((first|refine wx3 ?_;intro w b|refine wx4 ?_;intro w|refine wx5 ?_;intro w v);clear hk hS a;intro hS a hk)|refine wx0 ?_|fail))
    refine sg hk (g_bs0 RnH hS ?_ (hT := eT rfl) (hE := zT rfl));clear hk hS a;intro w v48 hS a hk
    (repeat' (first|((first|refine wx1 ?_|refine wx2 ?_ ?_<;>intro hp|refine s_end hk ?_)<;>(clear hk a;intro a hk))|((first|refine wx3 ?_;intro w b|refine wx4 ?_;intro w|refine wx5 ?_;intro w v);clear hk hS a;intro hS a hk)|refine wx0 ?_|fail))
    have hv1 : SlT H1 (.slice ax H1.length cx) w := (hS.rdr (D := { D with l := leaP D.l n }) (H := H1) (ao := ax) (c := cx) atx).1
    (repeat' (first|((first|refine wx1 ?_|refine wx2 ?_ ?_<;>intro hp|refine s_end hk ?_)<;>(clear hk a;intro a hk))|((first|refine wx3 ?_;intro w b|refine wx4 ?_;intro w|refine wx5 ?_;intro w v);clear hk hS a;intro hS a hk)|refine wx0 ?_|fail))
    clear hv1
    replace hk := Kn.kp [2, 4, 10, 11, 50, 51, 52] hk
    refine wp_for H1.length (fun i v => [(11, v), (52, .int .i64 (i : Int))]) (fun i v => OwT 73 ((H1.take i).filter (fun h => decide (h.1 ∉ gone))) v :: OwT 3 gone (.slice aovg gone.length cvg) :: pts b2 [.int .i64 D.most, .int .i64 D.next, .slice ax H1.length cx] 28 :: pts b4 [.int .i64 0, .int .i64 0, .slice none 0 0] 28 :: rdH (Rd5R { D with l := leaP D.l n } H1 ax cx) :: L) (fun _ _ => True) v48 hk skx (hS.sub (.cons atx (.cons atx (.cons atx (.cons atx (.cons atx sbx)))))) trivial ?_
    clear hk hS a
    rintro i vo a w hi hk hS -
    have hv1 : SlT H1 (.slice ax H1.length cx) w := (hS.rdr (D := { D with l := leaP D.l n }) (H := H1) (ao := ax) (c := cx) atx).1
    have hfl : ((H1.take i).filter (fun h => decide (h.1 ∉ gone))).length ≤ i := Nat.le_trans (List.length_filter_le _ _) (by rw [List.length_take];omega)
    by_cases hil : i < H1.length
    ·obtain ⟨e, hx⟩ : ∃ x, H1[i]? = some x := ⟨_, List.getElem?_eq_getElem hil⟩
     have hst : (H1.take (i + 1)).filter (fun h => decide (h.1 ∉ gone)) = (H1.take i).filter (fun h => decide (h.1 ∉ gone)) ++ [e].filter (fun h => decide (h.1 ∉ gone)) := by rw [take_snoc hx, List.filter_append]
     obtain ⟨id0, k0, tag0, text0, ⟨x10, x20, x30⟩, ⟨y10, y20, y30⟩, ⟨z10, z20, z30⟩, p0, ⟨u10, u20, u30⟩⟩ := e
     (repeat' (first|((first|refine wx1 ?_|refine wx2 ?_ ?_<;>intro hp|refine s_end hk ?_)<;>(clear hk a;intro a hk))|((first|refine wx3 ?_;intro w b|refine wx4 ?_;intro w|refine wx5 ?_;intro w v);clear hk hS a;intro hS a hk)|refine wx0 ?_|fail))
     clear hv1
     rename Nat => b13
     have hS1 := hS.sub (L' := pts b13 [.int .i64 id0, .int .i64 k0, .string tag0, .string text0, .slice x10 x20 x30, .slice y10 y20 y30, .slice z10 z20 z30, .int .i64 p0, .slice u10 u20 u30] 73 :: OwT 73 ((H1.take i).filter (fun h => decide (h.1 ∉ gone))) vo :: OwT 3 gone (.slice aovg gone.length cvg) :: pts b2 [.int .i64 D.most, .int .i64 D.next, .slice ax H1.length cx] 28 :: pts b4 [.int .i64 0, .int .i64 0, .slice none 0 0] 28 :: rdH (Rd5R { D with l := leaP D.l n } H1 ax cx) :: L) (.cons atx (.cons atx (.cons atx (.cons atx (.cons atx (.cons atx sbx))))))
     clear hS
     have hS := hS1
     clear hS1
     replace hk := Kn.kp [2, 4, 10, 11, 13, 14, 50, 51, 52, 56, 57, 58] hk
     refine wp_for gone.length (fun j b => [(14, .bool b), (58, .int .i64 (j : Int))]) (fun _ _ => pts b13 [.int .i64 id0, .int .i64 k0, .string tag0, .string text0, .slice x10 x20 x30, .slice y10 y20 y30, .slice z10 z20 z30, .int .i64 p0, .slice u10 u20 u30] 73 :: OwT 73 ((H1.take i).filter (fun h => decide (h.1 ∉ gone))) vo :: OwT 3 gone (.slice aovg gone.length cvg) :: pts b2 [.int .i64 D.most, .int .i64 D.next, .slice ax H1.length cx] 28 :: pts b4 [.int .i64 0, .int .i64 0, .slice none 0 0] 28 :: rdH (Rd5R { D with l := leaP D.l n } H1 ax cx) :: L) (fun j b => b = decide (id0 ∉ gone.take j)) true hk skx hS (by simp) ?_
     clear hk hS a
     rintro j st a w hj hk hS hb0
     by_cases hjl : j < gone.length
     ·obtain ⟨k, hxk⟩ : ∃ k, gone[j]? = some k := ⟨_, List.getElem?_eq_getElem hjl⟩
      have htk : gone.take (j + 1) = gone.take j ++ [k] := take_snoc hxk
      cases st with
      | false =>
       (repeat' (first|((first|refine wx1 ?_|refine wx2 ?_ ?_<;>intro hp|refine s_end hk ?_)<;>(clear hk a;intro a hk))|((first|refine wx3 ?_;intro w b|refine wx4 ?_;intro w|refine wx5 ?_;intro w v);clear hk hS a;intro hS a hk)|refine wx0 ?_|fail))
       refine ⟨hjl, false, hk.sd, hS, ?_⟩
       rw [htk]
       have h1 : id0 ∈ gone.take j := by simpa using hb0.symm
       simp [h1]
      | true =>
       have h1 : id0 ∉ gone.take j := by simpa using hb0.symm
       by_cases he : k = id0
       ·(repeat' (first|((first|refine wx1 ?_|refine wx2 ?_ ?_<;>intro hp|refine s_end hk ?_)<;>(clear hk a;intro a hk))|((first|refine wx3 ?_;intro w b|refine wx4 ?_;intro w|refine wx5 ?_;intro w v);clear hk hS a;intro hS a hk)|refine wx0 ?_|fail))
        refine ⟨hjl, false, hk.sd, hS, ?_⟩
        rw [htk, he]
        simp
       ·(repeat' (first|((first|refine wx1 ?_|refine wx2 ?_ ?_<;>intro hp|refine s_end hk ?_)<;>(clear hk a;intro a hk))|((first|refine wx3 ?_;intro w b|refine wx4 ?_;intro w|refine wx5 ?_;intro w v);clear hk hS a;intro hS a hk)|refine wx0 ?_|fail))
        refine ⟨hjl, true, hk.sd, hS, ?_⟩
        rw [htk]
        simp only [List.mem_append, List.mem_singleton, not_or]
        exact (decide_eq_true ⟨h1, fun e => he e.symm⟩).symm
     ·have hjj : j = gone.length := by omega
      subst hjj
      rw [List.take_length] at hb0
      cases st with
      | false =>
       have h1 : id0 ∈ gone := by simpa using hb0.symm
       rw [show [((id0, k0, tag0, text0, ⟨x10, x20, x30⟩, ⟨y10, y20, y30⟩, ⟨z10, z20, z30⟩, p0, ⟨u10, u20, u30⟩) : RnH)].filter (fun h => decide (h.1 ∉ gone)) = [] by simp [h1], List.append_nil] at hst
       (repeat' (first|((first|refine wx1 ?_|refine wx2 ?_ ?_<;>intro hp|refine s_end hk ?_)<;>(clear hk a;intro a hk))|((first|refine wx3 ?_;intro w b|refine wx4 ?_;intro w|refine wx5 ?_;intro w v);clear hk hS a;intro hS a hk)|refine wx0 ?_|fail))
       exact ⟨hil, vo, hk.sd, by rw [hst];exact hS.sub (.cons atx (.cons atx (.cons atx (.cons atx (.cons atx sbx))))), trivial⟩
      | true =>
       have h1 : id0 ∉ gone := by simpa using hb0.symm
       rw [show [((id0, k0, tag0, text0, ⟨x10, x20, x30⟩, ⟨y10, y20, y30⟩, ⟨z10, z20, z30⟩, p0, ⟨u10, u20, u30⟩) : RnH)].filter (fun h => decide (h.1 ∉ gone)) = [(id0, k0, tag0, text0, ⟨x10, x20, x30⟩, ⟨y10, y20, y30⟩, ⟨z10, z20, z30⟩, p0, ⟨u10, u20, u30⟩)] by simp [h1]] at hst
       generalize (H1.take i).filter (fun h => decide (h.1 ∉ gone)) = Y at *
       generalize (H1.take (i + 1)).filter (fun h => decide (h.1 ∉ gone)) = Y2 at *
       subst hst
       (repeat' (first|((first|refine wx1 ?_|refine wx2 ?_ ?_<;>intro hp|refine s_end hk ?_)<;>(clear hk a;intro a hk))|((first|refine wx3 ?_;intro w b|refine wx4 ?_;intro w|refine wx5 ?_;intro w v);clear hk hS a;intro hS a hk)|refine wx0 ?_|fail))
       refine sg hk (g_bsT (xs := [((id0, k0, tag0, text0, ⟨x10, x20, x30⟩, ⟨y10, y20, y30⟩, ⟨z10, z20, z30⟩, p0, ⟨u10, u20, u30⟩) : RnH)]) (m := 0) hk hS ?_ (hT := eT rfl) (hE := zT rfl) (hz := oT rfl));clear hk hS a;intro w v hS a hk;refine sg hk (g_appD hk hS ?_ (hT := eT rfl) (hTx := eT rfl) (hE := zT rfl) (hz := oT rfl) (hzs := rfl) (hby := bT rfl) (hbytes := (by simp only [List.length_cons, List.length_nil];omega)) (h63 := (by simp only [List.length_cons, List.length_nil, maxLen];omega)));clear hk hS a;intro w v hS a hk
       (repeat' (first|((first|refine wx1 ?_|refine wx2 ?_ ?_<;>intro hp|refine s_end hk ?_)<;>(clear hk a;intro a hk))|((first|refine wx3 ?_;intro w b|refine wx4 ?_;intro w|refine wx5 ?_;intro w v);clear hk hS a;intro hS a hk)|refine wx0 ?_|fail))
       exact ⟨hil, _, hk.sd, hS.sub (.cons atx (.cons atx (.cons atx (.cons atx (.cons atx sbx))))), trivial⟩
    ·have hii : i = H1.length := by omega
     subst hii
     rw [List.take_length] at hS
     clear hv1
     obtain ⟨aovo, cvo, hshp, _⟩ := (OwT.rd (hS.rd (A := OwT 73 _ vo) atx)).shape;subst hshp
     (repeat' (first|((first|refine wx1 ?_|refine wx2 ?_ ?_<;>intro hp|refine s_end hk ?_)<;>(clear hk a;intro a hk))|((first|refine wx3 ?_;intro w b|refine wx4 ?_;intro w|refine wx5 ?_;intro w v);clear hk hS a;intro hS a hk)|refine wx0 ?_|fail))
     refine done2R hk rfl (.str hS (hT := aT rfl) (hs := zT rfl)) (.tmp rfl) (h := ⟨_, rfl, ?_⟩)
     have er : remL D.l n = (leaP D.l n).filter (fun x => decide (x.id ∉ gone)) := by unfold remL;rw [en, hGe]
     rw [er]
     refine refO.of (D := { D with l := (leaP D.l n).filter (fun x => decide (x.id ∉ gone)) }) (H := H1.filter (fun h => decide (h.1 ∉ gone))) (ao := aovo) (c := cvo) (rdH.of (L1 := [OwT 73 (H1.filter (fun h => decide (h.1 ∉ gone))) (.slice aovo (H1.filter (fun h => decide (h.1 ∉ gone))).length cvo), rdH (Rd5R { D with l := leaP D.l n } H1 ax cx)]) (hS.sub (.cons atx (.cons atx sbx))) fun g hg => ?_)
     have g1 := OwT.rd (hg (OwT 73 (H1.filter (fun h => decide (h.1 ∉ gone))) (.slice aovo (H1.filter (fun h => decide (h.1 ∉ gone))).length cvo)) (by simp))
     have g3 := rdH.rd (Rd5R.stays { D with l := leaP D.l n } H1 ax cx) (hg (rdH (Rd5R { D with l := leaP D.l n } H1 ax cx)) (by simp))
     exact ⟨g1, g3.2.filter (fun i => decide (i ∉ gone))⟩
end
end Go.Proofs.YtgklceoodpocaaaGreatDoor
namespace Go.Proofs.YtgklceoodpocaaaGreatDoor
open Go.RowKit
set_option maxRecDepth 100000
attribute [local irreducible] Go.Code.wpIn Go.wpListIn Go.Calls Gives Go.Exit.then Go.Exit.inBlock Done ObxE
theorem setI_any (l : List PrI) (k : ByteArray) (x : Int) (v : Value) (w0 : World) (hv : SlT l v w0) (hl : l.length ≤ 1000) :
  Calls Tryz.prog 102 #[v, .string k, .int .i64 x] w0 (Ret fun v w => St w0 [OwT 100 (putF nmI (snapF nmI l) (k, x)) v] w) := by
 have hsl := snap_len nmI l
 refine enter Tryz.func102 rfl Tryz.ntmps102 rfl (fun a hk => ?_);have hS := St.refl w0
 (repeat' (first|((first|refine wx1 ?_|refine wx2 ?_ ?_<;>intro hp|refine s_end hk ?_)<;>(clear hk a;intro a hk))|((first|refine wx3 ?_;intro w b|refine wx4 ?_;intro w|refine wx5 ?_;intro w v);clear hk hS a;intro hS a hk)|refine wx0 ?_|fail))
 refine sg hk (g_callO hk (hf := by kernel_rfl) (hc := ofI_any l v _ (hS.rdT hv) hl) (h := ?_));clear hk a;rintro vs w hS1 a hk;replace hS := hS.call hS1;clear hS1
 (repeat' (first|((first|refine wx1 ?_|refine wx2 ?_ ?_<;>intro hp|refine s_end hk ?_)<;>(clear hk a;intro a hk))|((first|refine wx3 ?_;intro w b|refine wx4 ?_;intro w|refine wx5 ?_;intro w v);clear hk hS a;intro hS a hk)|refine wx0 ?_|fail))
 refine sg hk (g_callO hk (hf := by kernel_rfl) (hc := putI_any (s := snapF nmI l) (v := vs) (L := []) ((k, x) : PrI) (hS.sub (by (repeat (first | exact Sub.nil | exact Sub.refl | refine Sub.cons atx ?_)))) (by omega) (snap_rises nmI l)) (h := ?_));clear hk hS a;intro vr w hS a hk
 (repeat' (first|((first|refine wx1 ?_|refine wx2 ?_ ?_<;>intro hp|refine s_end hk ?_)<;>(clear hk a;intro a hk))|((first|refine wx3 ?_;intro w b|refine wx4 ?_;intro w|refine wx5 ?_;intro w v);clear hk hS a;intro hS a hk)|refine wx0 ?_|fail))
 exact done1 hk (h := hS)
theorem setS_any (l : List PrS) (k : ByteArray) (x : ByteArray) (v : Value) (w0 : World) (hv : SlT l v w0) (hl : l.length ≤ 1000) :
  Calls Tryz.prog 99 #[v, .string k, .string x] w0 (Ret fun v w => St w0 [OwT 98 (putF nmS (snapF nmS l) (k, x)) v] w) := by
 have hsl := snap_len nmS l
 refine enter Tryz.func99 rfl Tryz.ntmps99 rfl (fun a hk => ?_);have hS := St.refl w0
 (repeat' (first|((first|refine wx1 ?_|refine wx2 ?_ ?_<;>intro hp|refine s_end hk ?_)<;>(clear hk a;intro a hk))|((first|refine wx3 ?_;intro w b|refine wx4 ?_;intro w|refine wx5 ?_;intro w v);clear hk hS a;intro hS a hk)|refine wx0 ?_|fail))
 refine sg hk (g_callO hk (hf := by kernel_rfl) (hc := ofS_any l v _ (hS.rdT hv) hl) (h := ?_));clear hk a;rintro vs w hS1 a hk;replace hS := hS.call hS1;clear hS1
 (repeat' (first|((first|refine wx1 ?_|refine wx2 ?_ ?_<;>intro hp|refine s_end hk ?_)<;>(clear hk a;intro a hk))|((first|refine wx3 ?_;intro w b|refine wx4 ?_;intro w|refine wx5 ?_;intro w v);clear hk hS a;intro hS a hk)|refine wx0 ?_|fail))
 refine sg hk (g_callO hk (hf := by kernel_rfl) (hc := putS_any (s := snapF nmS l) (v := vs) (L := []) ((k, x) : PrS) (hS.sub (by (repeat (first | exact Sub.nil | exact Sub.refl | refine Sub.cons atx ?_)))) (by omega) (snap_rises nmS l)) (h := ?_));clear hk hS a;intro vr w hS a hk
 (repeat' (first|((first|refine wx1 ?_|refine wx2 ?_ ?_<;>intro hp|refine s_end hk ?_)<;>(clear hk a;intro a hk))|((first|refine wx3 ?_;intro w b|refine wx4 ?_;intro w|refine wx5 ?_;intro w v);clear hk hS a;intro hS a hk)|refine wx0 ?_|fail))
 exact done1 hk (h := hS)
end Go.Proofs.YtgklceoodpocaaaGreatDoor
