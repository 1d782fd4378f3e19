/- Layer 8: the document's view with attributes and styles in a row. Layer 8: the document's Parse. Layer 8: the program's reader: a view. Layer 8: Parse: what it defers; a text's view, or what is wrong first, and where. Layer 8: Parse: a text's view, or what is wrong first, and where. In a region that draws its order: a value made of what another operation gave, seen through a third one. Layer 9: an empty tree; what is frozen, forgotten. -/
import Derived.Test.YtnjmonkehjlaoaaGreatDoorG21
import Derived.Test.YtnjmonkehjlaoaaGreatDoorG22
import Derived.Test.YtnjmonkehjlaoaaGreatDoorG11
import Derived.Test.YtnjmonkehjlaoaaGreatDoorG07
import Derived.Test.YtnjmonkehjlaoaaGreatDoorG10
set_option linter.all false
namespace Go.Proofs.YtnjmonkehjlaoaaGreatDoor
open Go.RowKit
set_option maxRecDepth 100000
attribute [local irreducible] Go.Code.wpIn Go.wpListIn Go.Calls Gives Go.Exit.then Go.Exit.inBlock Done ObxE
theorem rdH.exS {α : Type} {K : World → Prop} {R : α → World → Prop} (h : ∀ g, K g → ∃ x, R x g) {B : Bs} {w : World} {L : List HP} (hS : St B (rdH K :: L) w) : ∃ x, St B (rdH (fun g => K g ∧ R x g) :: L) w := by
 obtain ⟨F, hF, F1, F2, h1, h2, h3, ⟨hd, g, hl, hz, hk⟩, h5⟩ := hS.own
 obtain ⟨x, hx⟩ := h g hk
 exact ⟨x, hS.below, hS.frz, F, hF, F1, F2, h1, h2, h3, ⟨hd, g, hl, hz, hk, hx⟩, h5⟩
theorem rdH.toS {K R : World → Prop} (h : ∀ g, K g → R g) {B : Bs} {w : World} {L : List HP} (hS : St B (rdH K :: L) w) : St B (rdH R :: L) w := by
 obtain ⟨F, hF, F1, F2, h1, h2, h3, ⟨hd, g, hl, hz, hk⟩, h5⟩ := hS.own
 exact ⟨hS.below, hS.frz, F, hF, F1, F2, h1, h2, h3, ⟨hd, g, hl, hz, h g hk⟩, h5⟩
theorem TrR.partsS {g : World} {k k' : Int} {tag key text tag' key' text' : ByteArray} {cl : List ByteArray} {al : List (ByteArray × ByteArray)} {sl : List (ByteArray × Int)} {o o' : Opt} {kids : List Tree} {hc ha hs hk : Hd}
  (h : TrR g (.mk k tag key text cl al sl o kids) (k', tag', key', text', hc, ha, hs, o', hk)) : SlT cl hc.v g ∧ SlT al ha.v g ∧ SlT sl hs.v g ∧ ∃ H : List NdH, SlT H hk.v g ∧ FoR g kids H := by
 cases h with
 | mk h1 h2 h3 h4 hl hr => exact ⟨h1, h2, h3, _, h4, hl, hr⟩
theorem staysS {K R : World → Prop} (h : Stays K) (h' : Stays R) : Stays (fun g => K g ∧ R g) := fun g w hf hr => ⟨h g w hf hr.1, h' g w hf hr.2⟩
def shT (K : World → Prop) (t : Tree) (v : Value) : HP := bagH (fun h : NdH => [rdH (fun g => K g ∧ TrR g t h)]) (fun h => v = ndV h)
theorem St.shT {K : World → Prop} {t : Tree} {v : Value} {B : Bs} {w : World} {L L' : List HP} (hS : St B L w) (hat : At (Proofs.YtnjmonkehjlaoaaGreatDoor.shT K t v) L L') : ∃ h, v = ndV h ∧ St B (rdH (fun g => K g ∧ TrR g t h) :: L') w := St.bag hS hat
theorem shT.of {K : World → Prop} {t : Tree} {h : NdH} {B : Bs} {w : World} {L : List HP} (hS : St B (rdH (fun g => K g ∧ TrR g t h) :: L) w) : St B (Proofs.YtnjmonkehjlaoaaGreatDoor.shT K t (ndV h) :: L) w := bagH.of (A := fun h : NdH => [rdH (fun g => K g ∧ TrR g t h)]) (x := h) hS rfl
set_option maxHeartbeats 8000000 in
theorem sorted8_any : ∀ (n : Nat) (t : Tree) (h : NdH) (K : World → Prop) (B : Bs) (L : List HP) (w : World), SizeOf.sizeOf t < n → FitsW t → NdA t → Stays K → (∀ g, K g → TrR g t h) → St B (rdH K :: L) w →
  Calls Tryz.prog 29 #[ndV h] w (Ret fun v w' => St B (shT K (snapT t) v :: L) w')
 | 0, _, _, _, _, _, _, hn, _, _, _, _, _ => by omega
 | n + 1, t, h, K, B, L, w, hn, hf, hd, hKs, hK, hS => by
  have ih := sorted8_any n
  have hKw : K w := rdH.rd hKs (hS.rd .here)
  obtain ⟨k, tag, key, text, cl, al, sl, e, lv, m, d, p, q, kids, a1, m1, a2, m2, a3, m3, a4, m4, H0, rfl, rfl, -, -, -, -, hF0⟩ := (hK w hKw).split
  have hHk0 : H0.length = kids.length := hF0.1
  rw [hHk0] at hK ⊢
  clear hF0 hHk0 H0
  obtain ⟨l1, l2, l3, l4, l5⟩ := hf
  obtain ⟨nd1, nd2⟩ := hd
  obtain ⟨H, hS1⟩ := rdH.exS (R := fun (H : List NdH) g => SlT H (.slice a4 kids.length m4) g ∧ FoR g kids H) (fun g hg => by
   obtain ⟨-, -, -, H, h4, hF⟩ := (hK g hg).partsS
   exact ⟨H, h4, hF⟩) hS
  clear hS
  have hS := hS1
  clear hS1
  generalize hKE : (fun g => K g ∧ SlT H (.slice a4 kids.length m4) g ∧ FoR g kids H) = K1 at hS
  have hK1 : ∀ g, K1 g → K g ∧ SlT H (.slice a4 kids.length m4) g ∧ FoR g kids H := fun g hg => by rw [← hKE] at hg;exact hg
  have hK1s : Stays K1 := by
   rw [← hKE]
   exact staysS hKs (fun g w hf hr => ⟨hr.1.frz hf, hr.2.frz hf⟩)
  have hHk : H.length = kids.length := (hK1 w (rdH.rd hK1s (hS.rd .here))).2.2.1
  have hi4 : ∀ w, (rdH K1).rd w → SlT H (.slice a4 kids.length m4) w := fun w h => (hK1 w (rdH.rd hK1s h)).2.1
  have hi3 : ∀ w, (rdH K1).rd w → SlT sl (.slice a3 sl.length m3) w := fun w h => (hK w (hK1 w (rdH.rd hK1s h)).1).partsS.2.2.1
  have hi2 : ∀ w, (rdH K1).rd w → SlT al (.slice a2 al.length m2) w := fun w h => (hK w (hK1 w (rdH.rd hK1s h)).1).partsS.2.1
  clear hKw hKE
  rw [snapT]
  show Calls Tryz.prog 29 #[.agg #[.int .i64 k, .string tag, .string key, .string text, .slice a1 cl.length m1, .slice a2 al.length m2, .slice a3 sl.length m3, .int .i64 e, .int .i64 lv, .int .i64 m, .int .i64 d, .bool p, .bool q, .slice a4 kids.length m4]] w _
  refine enter Tryz.func29 rfl Tryz.ntmps29 rfl (fun a hk => ?_)
  refine wpIn_seq ?_;refine wpIn_region_lit ?_
  refine st_box hk hS ?_;clear hk hS a;intro w b1 hS a hk
  refine st_alloc hk hS ?_;clear hk hS a;intro w b2 hS a hk
  (repeat' (first|((first|refine wx1 ?_|refine wx2 ?_ ?_<;>intro hp|refine s_end hk ?_)<;>(clear hk a;intro a hk))|((first|refine wx3 ?_;intro w b|refine wx4 ?_;intro w|refine wx5 ?_;intro w v);clear hk hS a;intro hS a hk)|refine wx0 ?_|fail))
  refine sg hk (g_callO hk (hf := by kernel_rfl) (hc := refOf_any sl _ _ (hi3 _ (hS.rd (A := rdH K1) atx)) (by omega)) (h := ?_));clear hk a;rintro vs w hS1 a hk;replace hS := hS.call hS1;clear hS1
  rw [List.cons_append, List.nil_append] at hS
  obtain ⟨aovs, cvs, hshp, _⟩ := (OwT.rd (hS.rd (A := OwT 135 _ vs) atx)).shape;subst hshp
  (repeat' (first|((first|refine wx1 ?_|refine wx2 ?_ ?_<;>intro hp|refine s_end hk ?_)<;>(clear hk a;intro a hk))|((first|refine wx3 ?_;intro w b|refine wx4 ?_;intro w|refine wx5 ?_;intro w v);clear hk hS a;intro hS a hk)|refine wx0 ?_|fail))
  refine sg hk (g_bs0 PrS hS ?_ (hT := eT rfl) (hE := zT rfl));clear hk hS a;intro w v3 hS a hk
  (repeat' (first|((first|refine wx1 ?_|refine wx2 ?_ ?_<;>intro hp|refine s_end hk ?_)<;>(clear hk a;intro a hk))|((first|refine wx3 ?_;intro w b|refine wx4 ?_;intro w|refine wx5 ?_;intro w v);clear hk hS a;intro hS a hk)|refine wx0 ?_|fail))
  have c2w := hi2 w (hS.rd (A := rdH K1) atx)
  (repeat' (first|((first|refine wx1 ?_|refine wx2 ?_ ?_<;>intro hp|refine s_end hk ?_)<;>(clear hk a;intro a hk))|((first|refine wx3 ?_;intro w b|refine wx4 ?_;intro w|refine wx5 ?_;intro w v);clear hk hS a;intro hS a hk)|refine wx0 ?_|fail))
  clear c2w
  obtain ⟨aov3, cv3, hshp, _⟩ := (OwT.rd (hS.rd (A := OwT 109 _ v3) atx)).shape;subst hshp
  replace hk := Kn.kp [1, 2, 3, 16, 17, 18] hk
  refine wp_for al.length (fun j v => [(3, .slice v.1 (snapF nmS (al.take j)).length v.2), (18, .int .i64 (j : Int))]) (fun j v => OwT 109 (snapF nmS (al.take j)) (.slice v.1 (snapF nmS (al.take j)).length v.2) :: pts b1 [.int .i64 k, .string tag, .string key, .string text, .slice a1 cl.length m1, .slice a2 al.length m2, .slice aovs (snapF nmI sl).length cvs, .int .i64 e, .int .i64 lv, .int .i64 m, .int .i64 d, .bool p, .bool q, .slice a4 kids.length m4] 42 :: OwT 135 (snapF nmI sl) (.slice aovs (snapF nmI sl).length cvs) :: pts b2 [.int .i64 0, .string ⟨#[]⟩, .string ⟨#[]⟩, .string ⟨#[]⟩, .slice none 0 0, .slice none 0 0, .slice none 0 0, .int .i64 0, .int .i64 0, .int .i64 0, .int .i64 0, .bool false, .bool false, .slice none 0 0] 42 :: rdH K1 :: L) (fun _ _ => True) ((aov3, cv3) : Option Addr × Nat) hk skx hS.sb trivial ?_
  clear hk hS a
  rintro j ⟨ao, c⟩ a w hj hk hS -
  simp only at hS hk
  have hsl := snap_len nmS (al.take j)
  rw [List.length_take] at hsl
  by_cases hjl : j < al.length
  ·obtain ⟨⟨an, av⟩, hx⟩ : ∃ x, al[j]? = some x := ⟨_, List.getElem?_eq_getElem hjl⟩
   have hst : snapF nmS (al.take (j + 1)) = putF nmS (snapF nmS (al.take j)) (an, av) := by rw [take_snoc hx, snap_snoc]
   have hnot : nmS (an, av) ∉ (snapF nmS (al.take j)).map nmS := by
    intro h
    obtain ⟨y, hy, hye⟩ := List.mem_map.1 h
    have hy2 := snap_mem nmS hy
    have h3 : al.map nmS = (al.take j).map nmS ++ (al.drop j).map nmS := by rw [← List.map_append, List.take_append_drop]
    have h4 := nd1
    rw [h3, List.nodup_append] at h4
    refine h4.2.2 (nmS y) (List.mem_map.2 ⟨y, hy2, rfl⟩) (nmS (an, av)) ?_ hye
    exact List.mem_map.2 ⟨(an, av), List.mem_of_getElem? (i := 0) (by rw [List.getElem?_drop];exact hx), rfl⟩
   generalize snapF nmS (al.take (j + 1)) = S' at hst ⊢
   generalize snapF nmS (al.take j) = S at *
   have c2w := hi2 w (hS.rd (A := rdH K1) atx)
   (repeat' (first|((first|refine wx1 ?_|refine wx2 ?_ ?_<;>intro hp|refine s_end hk ?_)<;>(clear hk a;intro a hk))|((first|refine wx3 ?_;intro w b|refine wx4 ?_;intro w|refine wx5 ?_;intro w v);clear hk hS a;intro hS a hk)|refine wx0 ?_|fail))
   clear c2w
   rename Nat => b5
   replace hk := Kn.kp [1, 2, 3, 5, 6, 16, 17, 18] hk
   refine wp_for S.length (fun i _ => [(6, .int .i64 (i : Int))]) (fun _ _ => pts b5 (Enc.f ((an, av) : PrS)) 109 :: OwT 109 S (.slice ao S.length c) :: pts b1 [.int .i64 k, .string tag, .string key, .string text, .slice a1 cl.length m1, .slice a2 al.length m2, .slice aovs (snapF nmI sl).length cvs, .int .i64 e, .int .i64 lv, .int .i64 m, .int .i64 d, .bool p, .bool q, .slice a4 kids.length m4] 42 :: OwT 135 (snapF nmI sl) (.slice aovs (snapF nmI sl).length cvs) :: pts b2 [.int .i64 0, .string ⟨#[]⟩, .string ⟨#[]⟩, .string ⟨#[]⟩, .slice none 0 0, .slice none 0 0, .slice none 0 0, .int .i64 0, .int .i64 0, .int .i64 0, .int .i64 0, .bool false, .bool false, .slice none 0 0] 42 :: rdH K1 :: L) (fun i _ => ∀ q (h : q < S.length), q < i → Lin.lt (nmS S[q]) an = true) () hk skx hS.sb (fun q _ h => by omega) ?_
   clear hk hS a
   rintro i - a w hi hk hS hlt
   have hcc : S.length ≤ c := SlT.cap (OwT.rd (hS.rd (A := OwT 109 S (.slice ao S.length c)) atx))
   by_cases hil : i < S.length
   ·(repeat' (first|((first|refine wx1 ?_|refine wx2 ?_ ?_<;>intro hp|refine s_end hk ?_)<;>(clear hk a;intro a hk))|((first|refine wx3 ?_;intro w b|refine wx4 ?_;intro w|refine wx5 ?_;intro w v);clear hk hS a;intro hS a hk)|refine wx0 ?_|fail))
    refine wp_drawn 13 mixed (by kernel_rfl) hk hS ?_;clear hk hS a
    (repeat' (first|(show ObxE _ _ _ _ _ _ _ _ _ (_::_) _ _ _;first|refine ox1 ?_|refine ox2 ?_ ?_<;>intro hp)|fail))
    ·have h1 : Lin.lt (nmS S[i]) an = true := by assumption
     refine obe_nil ⟨rfl, ?_⟩;intro us a w hk hS
     (repeat' (first|((first|refine wx1 ?_|refine wx2 ?_ ?_<;>intro hp|refine s_end hk ?_)<;>(clear hk a;intro a hk))|((first|refine wx3 ?_;intro w b|refine wx4 ?_;intro w|refine wx5 ?_;intro w v);clear hk hS a;intro hS a hk)|refine wx0 ?_|fail))
     refine ⟨hil, (), hk.sd, hS.sb, fun q h hq => ?_⟩
     rcases Nat.lt_or_ge q i with hqi | hqi
     ·exact hlt q h hqi
     ·have : q = i := by omega
      subst this
      exact h1
    ·have h1 : Lin.lt (nmS S[i]) an = false := by assumption
     have hb : ∀ h : i < S.length, Lin.lt (nmS S[i]) an = false := fun _ => h1
     refine obe_nil ⟨rfl, ?_⟩;intro us a w hk hS
     (repeat' (first|((first|refine wx1 ?_|refine wx2 ?_ ?_<;>intro hp|refine s_end hk ?_)<;>(clear hk a;intro a hk))|((first|refine wx3 ?_;intro w b|refine wx4 ?_;intro w|refine wx5 ?_;intro w v);clear hk hS a;intro hS a hk)|refine wx0 ?_|fail))
     have hip := ins_put (e := (an, av)) hi (fun q h hq => hlt q h hq) hb hnot
     rw [← hst] at hip
     (repeat (first | refine q_then ?_ | refine q_inE ?_ | refine q_inN ?_))
     refine an_region (fun a w => ∃ (ao' : Option Addr) (c' : Nat), Kn [] 68 a [(1, .pointer (some ⟨b1, 0, none⟩)), (2, .pointer (some ⟨b2, 0, none⟩)), (3, .slice ao' S'.length c'), (16, .slice a2 al.length m2), (17, .int .i64 (al.length : Int)), (18, .int .i64 (j : Int))] ∧ St B (OwT 109 S' (.slice ao' S'.length c') :: pts b1 [.int .i64 k, .string tag, .string key, .string text, .slice a1 cl.length m1, .slice a2 al.length m2, .slice aovs (snapF nmI sl).length cvs, .int .i64 e, .int .i64 lv, .int .i64 m, .int .i64 d, .bool p, .bool q, .slice a4 kids.length m4] 42 :: OwT 135 (snapF nmI sl) (.slice aovs (snapF nmI sl).length cvs) :: pts b2 [.int .i64 0, .string ⟨#[]⟩, .string ⟨#[]⟩, .string ⟨#[]⟩, .slice none 0 0, .slice none 0 0, .slice none 0 0, .int .i64 0, .int .i64 0, .int .i64 0, .int .i64 0, .bool false, .bool false, .slice none 0 0] 42 :: rdH K1 :: L) w) (fun _ _ => False) hk (by kernel_rfl) ?_ (fun ch a w _ h => h.elim) ?_
     ·clear hk hS
      rintro a w ⟨ao', c', hk, hS⟩
      (repeat (first | refine q_then ?_ | refine q_inE ?_ | refine q_inN ?_))
      (repeat' (first|((first|refine wx1 ?_|refine wx2 ?_ ?_<;>intro hp|refine s_end hk ?_)<;>(clear hk a;intro a hk))|((first|refine wx3 ?_;intro w b|refine wx4 ?_;intro w|refine wx5 ?_;intro w v);clear hk hS a;intro hS a hk)|refine wx0 ?_|fail))
      exact ⟨hjl, (ao', c'), hk.sd, hS, trivial⟩
     ·replace hS := hS.drew
      generalize w.drew = w at hS
      refine an_take (i := 0) (k := 10) rfl hk (by kernel_rfl) (by kernel_rfl) (by kernel_rfl) (y_move hk rfl) (fun _ => rfl) rfl (fun a hk => ?_) rfl
      refine an_take (i := 1) (k := 9) rfl hk (by kernel_rfl) (by kernel_rfl) (by kernel_rfl) (y_move hk rfl) (fun _ => rfl) rfl (fun a hk => ?_) rfl
      refine an_take (i := 2) (k := 8) rfl hk (by kernel_rfl) (by kernel_rfl) (by kernel_rfl) (y_slT (j := i) hk rfl rfl (eT rfl) (zT rfl) (Nat.le_trans hi hcc)) (fun _ => rfl) rfl (fun a hk => ?_) rfl
      refine an_take (i := 5) (k := 7) rfl hk (by kernel_rfl) (by kernel_rfl) (by kernel_rfl) (y_move hk rfl) (fun _ => rfl) rfl (fun a hk => ?_) rfl
      refine an_take (i := 6) (k := 6) rfl hk (by kernel_rfl) (by kernel_rfl) (by kernel_rfl) (y_move hk rfl) (fun _ => rfl) rfl (fun a hk => ?_) rfl
      refine an_take (i := 7) (k := 5) rfl hk (by kernel_rfl) (by kernel_rfl) (by kernel_rfl) (y_slF (i := i) hk rfl rfl (eT rfl) (zT rfl) hi) (fun _ => rfl) rfl (fun a hk => ?_) rfl
      refine an_step (i := 3) (rs := []) (by kernel_rfl) ?_
      intro jx hjx
      simp only [List.mem_cons, List.not_mem_nil, or_false] at hjx
      subst hjx
      refine an_op (i := 3) rfl hk (g_ownN hk hS (fun a hk => ?_) (aT rfl) (zT rfl)) rfl
      refine an_step (i := 4) (rs := []) (by kernel_rfl) ?_
      intro jx hjx
      simp only [List.mem_cons, List.not_mem_nil, or_false] at hjx
      subst hjx
      refine an_op (i := 4) rfl hk (g_bsT (xs := [((an, av) : PrS)]) (m := 0) hk hS (fun w v42 hS a hk => ?_) (hT := eT rfl) (hE := zT rfl) (hz := oT rfl)) rfl
      refine an_step (i := 8) (rs := []) (by kernel_rfl) ?_
      intro jx hjx
      simp only [List.mem_cons, List.not_mem_nil, or_false] at hjx
      subst hjx
      have hsl1 : SlT S (.slice ao S.length c) w := (by first | exact St.rdT hS (by assumption) | exact OwT.rd (hS.rd (A := OwT _ _ _) atx) | assumption)
      have hdr := hsl1.dropS i hi
      refine an_op (i := 8) rfl hk (g_appT (xs := [((an, av) : PrS)]) (ys := S.drop i) hk hS (fun w v46 hS a hk => ?_) (hT := eT rfl) (hTx := eT rfl) (hE := zT rfl) (hz := oT rfl) (hzs := rfl) (hs := hdr) (hby := bT rfl) (hbytes := (by simp only [List.length_cons, List.length_nil, List.length_drop, List.length_take, List.length_append];omega)) (h63 := (by simp only [List.length_cons, List.length_nil, List.length_drop, List.length_take, List.length_append, maxLen];omega))) rfl
      have hS1 := St.cutT (xs := S) i hS atx hi
      refine an_step (i := 9) (rs := []) (by kernel_rfl) ?_
      intro jx hjx
      simp only [List.mem_cons, List.not_mem_nil, or_false] at hjx
      subst hjx
      refine an_op (i := 9) rfl hk (g_appD (xs := S.take i) (ys := [((an, av) : PrS)] ++ S.drop i) hk hS1 (fun w v47 hS a hk => ?_) (hT := eT rfl) (hTx := eT rfl) (hE := zT rfl) (hz := oT rfl) (hzs := rfl) (hby := bT rfl) (hbytes := (by simp only [List.length_cons, List.length_nil, List.length_drop, List.length_take, List.length_append];omega)) (h63 := (by simp only [List.length_cons, List.length_nil, List.length_drop, List.length_take, List.length_append, maxLen];omega))) rfl
      rw [show S.take i ++ ([((an, av) : PrS)] ++ S.drop i) = S' from hip] at hS
      obtain ⟨aov47, cv47, hshp, _⟩ := (OwT.rd (hS.rd (A := OwT 109 _ v47) atx)).shape;subst hshp
      refine an_take (i := 10) (k := 0) rfl hk (by kernel_rfl) (by kernel_rfl) (by kernel_rfl) (y_assign hk rfl) (fun _ => rfl) rfl (fun a hk => ?_) rfl
      exact an_end (by kernel_rfl) (QX.normal ⟨aov47, cv47, hk.sub skx, hS.sub (.cons atx (.cons atx (.cons atx (.cons atx (.cons atx (by repeat (first | exact Sub.refl | apply Sub.under)))))))⟩)
   ·have hb : ∀ h : i < S.length, Lin.lt (nmS S[i]) an = false := fun h => absurd h hil
    (repeat' (first|((first|refine wx1 ?_|refine wx2 ?_ ?_<;>intro hp|refine s_end hk ?_)<;>(clear hk a;intro a hk))|((first|refine wx3 ?_;intro w b|refine wx4 ?_;intro w|refine wx5 ?_;intro w v);clear hk hS a;intro hS a hk)|refine wx0 ?_|fail))
    refine wp_drawn 13 mixed (by kernel_rfl) hk hS ?_;clear hk hS a
    (repeat' (first|(show ObxE _ _ _ _ _ _ _ _ _ (_::_) _ _ _;first|refine ox1 ?_|refine ox2 ?_ ?_<;>intro hp)|fail))
    refine obe_nil ⟨rfl, ?_⟩;intro us a w hk hS
    (repeat' (first|((first|refine wx1 ?_|refine wx2 ?_ ?_<;>intro hp|refine s_end hk ?_)<;>(clear hk a;intro a hk))|((first|refine wx3 ?_;intro w b|refine wx4 ?_;intro w|refine wx5 ?_;intro w v);clear hk hS a;intro hS a hk)|refine wx0 ?_|fail))
    have hip := ins_put (e := (an, av)) hi (fun q h hq => hlt q h hq) hb hnot
    rw [← hst] at hip
    (repeat (first | refine q_then ?_ | refine q_inE ?_ | refine q_inN ?_))
    refine an_region (fun a w => ∃ (ao' : Option Addr) (c' : Nat), Kn [] 68 a [(1, .pointer (some ⟨b1, 0, none⟩)), (2, .pointer (some ⟨b2, 0, none⟩)), (3, .slice ao' S'.length c'), (16, .slice a2 al.length m2), (17, .int .i64 (al.length : Int)), (18, .int .i64 (j : Int))] ∧ St B (OwT 109 S' (.slice ao' S'.length c') :: pts b1 [.int .i64 k, .string tag, .string key, .string text, .slice a1 cl.length m1, .slice a2 al.length m2, .slice aovs (snapF nmI sl).length cvs, .int .i64 e, .int .i64 lv, .int .i64 m, .int .i64 d, .bool p, .bool q, .slice a4 kids.length m4] 42 :: OwT 135 (snapF nmI sl) (.slice aovs (snapF nmI sl).length cvs) :: pts b2 [.int .i64 0, .string ⟨#[]⟩, .string ⟨#[]⟩, .string ⟨#[]⟩, .slice none 0 0, .slice none 0 0, .slice none 0 0, .int .i64 0, .int .i64 0, .int .i64 0, .int .i64 0, .bool false, .bool false, .slice none 0 0] 42 :: rdH K1 :: L) w) (fun _ _ => False) hk (by kernel_rfl) ?_ (fun ch a w _ h => h.elim) ?_
    ·clear hk hS
     rintro a w ⟨ao', c', hk, hS⟩
     (repeat (first | refine q_then ?_ | refine q_inE ?_ | refine q_inN ?_))
     (repeat' (first|((first|refine wx1 ?_|refine wx2 ?_ ?_<;>intro hp|refine s_end hk ?_)<;>(clear hk a;intro a hk))|((first|refine wx3 ?_;intro w b|refine wx4 ?_;intro w|refine wx5 ?_;intro w v);clear hk hS a;intro hS a hk)|refine wx0 ?_|fail))
     exact ⟨hjl, (ao', c'), hk.sd, hS, trivial⟩
    ·replace hS := hS.drew
     generalize w.drew = w at hS
     refine an_take (i := 0) (k := 10) rfl hk (by kernel_rfl) (by kernel_rfl) (by kernel_rfl) (y_move hk rfl) (fun _ => rfl) rfl (fun a hk => ?_) rfl
     refine an_take (i := 1) (k := 9) rfl hk (by kernel_rfl) (by kernel_rfl) (by kernel_rfl) (y_move hk rfl) (fun _ => rfl) rfl (fun a hk => ?_) rfl
     refine an_take (i := 2) (k := 8) rfl hk (by kernel_rfl) (by kernel_rfl) (by kernel_rfl) (y_slT (j := i) hk rfl rfl (eT rfl) (zT rfl) (Nat.le_trans hi hcc)) (fun _ => rfl) rfl (fun a hk => ?_) rfl
     refine an_take (i := 5) (k := 7) rfl hk (by kernel_rfl) (by kernel_rfl) (by kernel_rfl) (y_move hk rfl) (fun _ => rfl) rfl (fun a hk => ?_) rfl
     refine an_take (i := 6) (k := 6) rfl hk (by kernel_rfl) (by kernel_rfl) (by kernel_rfl) (y_move hk rfl) (fun _ => rfl) rfl (fun a hk => ?_) rfl
     refine an_take (i := 7) (k := 5) rfl hk (by kernel_rfl) (by kernel_rfl) (by kernel_rfl) (y_slF (i := i) hk rfl rfl (eT rfl) (zT rfl) hi) (fun _ => rfl) rfl (fun a hk => ?_) rfl
     refine an_step (i := 3) (rs := []) (by kernel_rfl) ?_
     intro jx hjx
     simp only [List.mem_cons, List.not_mem_nil, or_false] at hjx
     subst hjx
     refine an_op (i := 3) rfl hk (g_ownN hk hS (fun a hk => ?_) (aT rfl) (zT rfl)) rfl
     refine an_step (i := 4) (rs := []) (by kernel_rfl) ?_
     intro jx hjx
     simp only [List.mem_cons, List.not_mem_nil, or_false] at hjx
     subst hjx
     refine an_op (i := 4) rfl hk (g_bsT (xs := [((an, av) : PrS)]) (m := 0) hk hS (fun w v42 hS a hk => ?_) (hT := eT rfl) (hE := zT rfl) (hz := oT rfl)) rfl
     refine an_step (i := 8) (rs := []) (by kernel_rfl) ?_
     intro jx hjx
     simp only [List.mem_cons, List.not_mem_nil, or_false] at hjx
     subst hjx
     have hsl1 : SlT S (.slice ao S.length c) w := (by first | exact St.rdT hS (by assumption) | exact OwT.rd (hS.rd (A := OwT _ _ _) atx) | assumption)
     have hdr := hsl1.dropS i hi
     refine an_op (i := 8) rfl hk (g_appT (xs := [((an, av) : PrS)]) (ys := S.drop i) hk hS (fun w v46 hS a hk => ?_) (hT := eT rfl) (hTx := eT rfl) (hE := zT rfl) (hz := oT rfl) (hzs := rfl) (hs := hdr) (hby := bT rfl) (hbytes := (by simp only [List.length_cons, List.length_nil, List.length_drop, List.length_take, List.length_append];omega)) (h63 := (by simp only [List.length_cons, List.length_nil, List.length_drop, List.length_take, List.length_append, maxLen];omega))) rfl
     have hS1 := St.cutT (xs := S) i hS atx hi
     refine an_step (i := 9) (rs := []) (by kernel_rfl) ?_
     intro jx hjx
     simp only [List.mem_cons, List.not_mem_nil, or_false] at hjx
     subst hjx
     refine an_op (i := 9) rfl hk (g_appD (xs := S.take i) (ys := [((an, av) : PrS)] ++ S.drop i) hk hS1 (fun w v47 hS a hk => ?_) (hT := eT rfl) (hTx := eT rfl) (hE := zT rfl) (hz := oT rfl) (hzs := rfl) (hby := bT rfl) (hbytes := (by simp only [List.length_cons, List.length_nil, List.length_drop, List.length_take, List.length_append];omega)) (h63 := (by simp only [List.length_cons, List.length_nil, List.length_drop, List.length_take, List.length_append, maxLen];omega))) rfl
     rw [show S.take i ++ ([((an, av) : PrS)] ++ S.drop i) = S' from hip] at hS
     obtain ⟨aov47, cv47, hshp, _⟩ := (OwT.rd (hS.rd (A := OwT 109 _ v47) atx)).shape;subst hshp
     refine an_take (i := 10) (k := 0) rfl hk (by kernel_rfl) (by kernel_rfl) (by kernel_rfl) (y_assign hk rfl) (fun _ => rfl) rfl (fun a hk => ?_) rfl
     exact an_end (by kernel_rfl) (QX.normal ⟨aov47, cv47, hk.sub skx, hS.sub (.cons atx (.cons atx (.cons atx (.cons atx (.cons atx (by repeat (first | exact Sub.refl | apply Sub.under)))))))⟩)
  ·have hjj : j = al.length := by omega
   subst hjj
   rw [List.take_length] at hS hk hsl
   (repeat' (first|((first|refine wx1 ?_|refine wx2 ?_ ?_<;>intro hp|refine s_end hk ?_)<;>(clear hk a;intro a hk))|((first|refine wx3 ?_;intro w b|refine wx4 ?_;intro w|refine wx5 ?_;intro w v);clear hk hS a;intro hS a hk)|refine wx0 ?_|fail))
   refine sg hk (g_bs0 NdH hS ?_ (hT := eT rfl) (hE := zT rfl));clear hk hS a;intro w v7 hS a hk
   obtain ⟨aov7, cv7, hshp, _⟩ := (OwT.rd (hS.rd (A := OwT 42 _ v7) atx)).shape;subst hshp
   have c4w := hi4 w (hS.rd (A := rdH K1) atx)
   rw [← hHk] at c4w
   (repeat' (first|((first|refine wx1 ?_|refine wx2 ?_ ?_<;>intro hp|refine s_end hk ?_)<;>(clear hk a;intro a hk))|((first|refine wx3 ?_;intro w b|refine wx4 ?_;intro w|refine wx5 ?_;intro w v);clear hk hS a;intro hS a hk)|refine wx0 ?_|fail))
   rw [hHk] at c4w
   (repeat' (first|((first|refine wx1 ?_|refine wx2 ?_ ?_<;>intro hp|refine s_end hk ?_)<;>(clear hk a;intro a hk))|((first|refine wx3 ?_;intro w b|refine wx4 ?_;intro w|refine wx5 ?_;intro w v);clear hk hS a;intro hS a hk)|refine wx0 ?_|fail))
   clear c4w
   rw [hHk] at hk
   replace hS := rdH.toS (R := fun g => K1 g ∧ FoR g (snapTs (kids.take 0)) []) (fun g hg => ⟨hg, FoR.nil g⟩) (hS.sub (L' := rdH K1 :: OwT 42 ([] : List NdH) (.slice aov7 0 cv7) :: pts b1 [.int .i64 k, .string tag, .string key, .string text, .slice a1 cl.length m1, .slice ao (snapF nmS al).length c, .slice aovs (snapF nmI sl).length cvs, .int .i64 e, .int .i64 lv, .int .i64 m, .int .i64 d, .bool p, .bool q, .slice a4 kids.length m4] 42 :: OwT 109 (snapF nmS al) (.slice ao (snapF nmS al).length c) :: OwT 135 (snapF nmI sl) (.slice aovs (snapF nmI sl).length cvs) :: pts b2 [.int .i64 0, .string ⟨#[]⟩, .string ⟨#[]⟩, .string ⟨#[]⟩, .slice none 0 0, .slice none 0 0, .slice none 0 0, .int .i64 0, .int .i64 0, .int .i64 0, .int .i64 0, .bool false, .bool false, .slice none 0 0] 42 :: L) (.cons atx (.cons atx (.cons atx (.cons atx (.cons atx (.cons atx (by repeat (first | exact Sub.refl | apply Sub.under)))))))))
   replace hk := Kn.kp [1, 2, 7, 53, 54, 55] hk
   refine wp_for kids.length (fun i v => [(7, .slice v.1.1 i v.1.2), (55, .int .i64 (i : Int))]) (fun i v => rdH (fun g => K1 g ∧ FoR g (snapTs (kids.take i)) (v.2 : List NdH)) :: OwT 42 v.2 (.slice v.1.1 i v.1.2) :: pts b1 [.int .i64 k, .string tag, .string key, .string text, .slice a1 cl.length m1, .slice ao (snapF nmS al).length c, .slice aovs (snapF nmI sl).length cvs, .int .i64 e, .int .i64 lv, .int .i64 m, .int .i64 d, .bool p, .bool q, .slice a4 kids.length m4] 42 :: OwT 109 (snapF nmS al) (.slice ao (snapF nmS al).length c) :: OwT 135 (snapF nmI sl) (.slice aovs (snapF nmI sl).length cvs) :: pts b2 [.int .i64 0, .string ⟨#[]⟩, .string ⟨#[]⟩, .string ⟨#[]⟩, .slice none 0 0, .slice none 0 0, .slice none 0 0, .int .i64 0, .int .i64 0, .int .i64 0, .int .i64 0, .bool false, .bool false, .slice none 0 0] 42 :: L) (fun _ _ => True) (((aov7, cv7), []) : (Option Addr × Nat) × List NdH) hk skx hS trivial ?_
   clear hk hS a
   rintro j ⟨⟨ak, ck⟩, H'⟩ a w hj hk hS -
   simp only at hS hk
   have hstay : Stays (fun g => K1 g ∧ FoR g (snapTs (kids.take j)) H') := staysS hK1s (FoR.stays _ _)
   have hKw := rdH.rd hstay (hS.rd .here)
   have hkl : (snapTs (kids.take j)).length = j := by rw [snapTs_len, List.length_take];omega
   have hHl : H'.length = j := by rw [hKw.2.1, hkl]
   by_cases hjl : j < kids.length
   ·obtain ⟨tk, htk⟩ : ∃ t, kids[j]? = some t := ⟨_, List.getElem?_eq_getElem hjl⟩
    obtain ⟨hd0, hx⟩ : ∃ x, H[j]? = some x := ⟨_, List.getElem?_eq_getElem (by omega)⟩
    have hfk := l5 tk (List.mem_of_getElem? htk)
    have hndk := nd2 tk (List.mem_of_getElem? htk)
    have hlt : SizeOf.sizeOf tk < n := by have := kid_lt (k := k) (tag := tag) (key := key) (text := text) (cl := cl) (at_ := al) (st := sl) (o := (e, lv, m, d, p, q)) (List.mem_of_getElem? htk);omega
    have hst : snapTs (kids.take (j + 1)) = snapTs (kids.take j) ++ [snapT tk] := by rw [take_snoc htk, snapTs_app, snapTs, snapTs]
    have c4'' := (hK1 w hKw.1).2.1
    generalize hK2 : (fun g => K1 g ∧ FoR g (snapTs (kids.take j)) H') = K2 at hS hstay
    have hTk : ∀ g, K2 g → TrR g tk hd0 := fun g hg => by
     rw [← hK2] at hg
     exact (hK1 g hg.1).2.2.2 j tk hd0 htk hx
    obtain ⟨k', tag', key', text', ⟨x1, x2, x3⟩, ⟨y1, y2, y3⟩, ⟨z1, z2, z3⟩, ⟨e', lv', m', d', p', q'⟩, ⟨u1, u2, u3⟩⟩ := hd0
    (repeat' (first|((first|refine wx1 ?_|refine wx2 ?_ ?_<;>intro hp|refine s_end hk ?_)<;>(clear hk a;intro a hk))|((first|refine wx3 ?_;intro w b|refine wx4 ?_;intro w|refine wx5 ?_;intro w v);clear hk hS a;intro hS a hk)|refine wx0 ?_|fail))
    rename Nat => b5
    refine sg hk (g_callO hk (hf := by kernel_rfl) (hc := ih tk (k', tag', key', text', ⟨x1, x2, x3⟩, ⟨y1, y2, y3⟩, ⟨z1, z2, z3⟩, (e', lv', m', d', p', q'), ⟨u1, u2, u3⟩) K2 _ _ _ hlt hfk hndk hstay hTk (hS.sub (.cons atx .refl))) (h := ?_));clear hk hS a;intro vr w hS a hk
    obtain ⟨⟨k2, tag2, key2, text2, ⟨x12, x22, x32⟩, ⟨y12, y22, y32⟩, ⟨z12, z22, z32⟩, ⟨e2, lv2, mm2, d2, pp2, qq2⟩, ⟨u12, u22, u32⟩⟩, rfl, hS1⟩ := St.shT hS .here
    clear hS
    have hS := hS1
    clear hS1
    (repeat' (first|((first|refine wx1 ?_|refine wx2 ?_ ?_<;>intro hp|refine s_end hk ?_)<;>(clear hk a;intro a hk))|((first|refine wx3 ?_;intro w b|refine wx4 ?_;intro w|refine wx5 ?_;intro w v);clear hk hS a;intro hS a hk)|refine wx0 ?_|fail))
    refine sg hk (g_bsT (xs := [((k2, tag2, key2, text2, ⟨x12, x22, x32⟩, ⟨y12, y22, y32⟩, ⟨z12, z22, z32⟩, (e2, lv2, mm2, d2, pp2, qq2), ⟨u12, u22, u32⟩) : NdH)]) (m := 0) hk hS ?_ (hT := eT rfl) (hE := zT rfl) (hz := oT rfl));clear hk hS a;intro w ve hS a hk
    (repeat' (first|((first|refine wx1 ?_|refine wx2 ?_ ?_<;>intro hp|refine s_end hk ?_)<;>(clear hk a;intro a hk))|((first|refine wx3 ?_;intro w b|refine wx4 ?_;intro w|refine wx5 ?_;intro w v);clear hk hS a;intro hS a hk)|refine wx0 ?_|fail))
    have hl1 : (H' ++ [((k2, tag2, key2, text2, ⟨x12, x22, x32⟩, ⟨y12, y22, y32⟩, ⟨z12, z22, z32⟩, (e2, lv2, mm2, d2, pp2, qq2), ⟨u12, u22, u32⟩) : NdH)]).length = j + 1 := by rw [List.length_append, hHl];rfl
    rename Value => vn
    obtain ⟨aovn, cvn, hshp, _⟩ := (OwT.rd (hS.rd (A := OwT 42 _ vn) atx)).shape;subst hshp
    rw [hl1] at hS hk
    (repeat' (first|((first|refine wx1 ?_|refine wx2 ?_ ?_<;>intro hp|refine s_end hk ?_)<;>(clear hk a;intro a hk))|((first|refine wx3 ?_;intro w b|refine wx4 ?_;intro w|refine wx5 ?_;intro w v);clear hk hS a;intro hS a hk)|refine wx0 ?_|fail))
    refine ⟨hjl, ((aovn, cvn), H' ++ [((k2, tag2, key2, text2, ⟨x12, x22, x32⟩, ⟨y12, y22, y32⟩, ⟨z12, z22, z32⟩, (e2, lv2, mm2, d2, pp2, qq2), ⟨u12, u22, u32⟩) : NdH)]), hk.sd, ?_, trivial⟩
    refine rdH.toS (K := fun g => K2 g ∧ TrR g (snapT tk) ((k2, tag2, key2, text2, ⟨x12, x22, x32⟩, ⟨y12, y22, y32⟩, ⟨z12, z22, z32⟩, (e2, lv2, mm2, d2, pp2, qq2), ⟨u12, u22, u32⟩) : NdH)) (fun g hg => ?_) (hS.sub (.cons atx (.cons atx (.cons atx (.cons atx (.cons atx (.cons atx (by repeat (first | exact Sub.refl | apply Sub.under)))))))))
    obtain ⟨hg1, hg2⟩ := hg
    rw [← hK2] at hg1
    rw [hst]
    exact ⟨hg1.1, hg1.2.snoc hg2⟩
   ·have hjj : j = kids.length := by omega
    subst hjj
    rw [List.take_length] at hS
    (repeat' (first|((first|refine wx1 ?_|refine wx2 ?_ ?_<;>intro hp|refine s_end hk ?_)<;>(clear hk a;intro a hk))|((first|refine wx3 ?_;intro w b|refine wx4 ?_;intro w|refine wx5 ?_;intro w v);clear hk hS a;intro hS a hk)|refine wx0 ?_|fail))
    refine done1R hk rfl (.str hS (hT := aT rfl) (hs := zT rfl)) (h := ?_)
    refine shT.of (h := (k, tag, key, text, ⟨a1, cl.length, m1⟩, ⟨ao, (snapF nmS al).length, c⟩, ⟨aovs, (snapF nmI sl).length, cvs⟩, (e, lv, m, d, p, q), ⟨ak, kids.length, ck⟩)) ?_
    refine rdH.of (L1 := [rdH (fun g => K1 g ∧ FoR g (snapTs kids) H'), OwT 42 H' (.slice ak kids.length ck), OwT 109 (snapF nmS al) (.slice ao (snapF nmS al).length c), OwT 135 (snapF nmI sl) (.slice aovs (snapF nmI sl).length cvs)]) (hS.sub (.cons atx (.cons atx (.cons atx (.cons atx (by repeat (first | exact Sub.refl | apply Sub.under))))))) fun g hg => ?_
    have hg1 : K1 g ∧ FoR g (snapTs kids) H' := rdH.rd (staysS hK1s (FoR.stays _ _)) (hg _ (by simp))
    have hg2 := hK1 g hg1.1
    obtain ⟨c1, -, -, -⟩ := (hK g hg2.1).partsS
    exact ⟨hg2.1, .mk c1 (OwT.rd (hg (OwT 109 (snapF nmS al) (.slice ao (snapF nmS al).length c)) (by simp))) (OwT.rd (hg (OwT 135 (snapF nmI sl) (.slice aovs (snapF nmI sl).length cvs)) (by simp))) (OwT.rd (hg (OwT 42 H' (.slice ak kids.length ck)) (by simp))) hg1.2.1 hg1.2.2⟩
end Go.Proofs.YtnjmonkehjlaoaaGreatDoor
namespace Go.Proofs.YtnjmonkehjlaoaaGreatDoor
open Go.RowKit
set_option maxRecDepth 100000
attribute [local irreducible] Go.Code.wpIn Go.wpListIn Go.Calls Gives Go.Exit.then Go.Exit.inBlock Done ObxE
abbrev noT : Tree := .mk 0 ⟨#[]⟩ ⟨#[]⟩ ⟨#[]⟩ [] [] [] o0 []
abbrev noN : NdH := (0, ⟨#[]⟩, ⟨#[]⟩, ⟨#[]⟩, ⟨none, 0, 0⟩, ⟨none, 0, 0⟩, ⟨none, 0, 0⟩, o0, ⟨none, 0, 0⟩)
theorem noT_tr (w : World) : TrR w noT noN := .mk (hc := ⟨none, 0, 0⟩) (ha := ⟨none, 0, 0⟩) (hs := ⟨none, 0, 0⟩) (hk := ⟨none, 0, 0⟩) (H := []) (SlT.nil w) (SlT.nil w) (SlT.nil w) (SlT.nil w) rfl (fun i t h h1 => by cases h1)
theorem noT_fit : FitsW noT := .mk (Nat.zero_le _) (Nat.zero_le _) (Nat.zero_le _) (Nat.zero_le _) (fun x hx => by cases hx)
def parT : Rd Tree → Tree × Nat × Int
 | .ok t _ => (snapT t, 0, 0)
 | .no p e => (noT, p, e)
def ParA (B : Bs) (L : List HP) (r : Rd Tree) (v : Value) (w : World) : Prop := ∃ h : NdH, v = .tuple #[ndV h, .int .i64 ((parT r).2.1 : Int), .int .i64 (parT r).2.2] ∧ St B (treeR (parT r).1 h :: L) w
theorem St.noTree {B : Bs} {L : List HP} {w : World} (hS : St B L w) : St B (treeR noT noN :: L) w := rdH.of (L1 := []) hS fun g _ => noT_tr g
set_option maxHeartbeats 8000000 in
theorem rparse8_any (s : ByteArray) (hs : s.size ≤ 900) (B : Bs) (L : List HP) (w : World) (ht : TabW B.w) (hS : St B L w) : Calls Tryz.prog 7 #[.string s] w (Ret (ParA B L (parseF s))) := by
 have hR : parseF s = parseF s := rfl
 conv at hR => rhs;unfold parseF
 rw [if_neg (by omega)] at hR
 have hfit : ∀ t j, viewF s (2 * s.size + 2) 0 0 = .ok t j → FitsW t ∧ NdA t := fun t j h => ⟨((view_fits s (by omega) _).1 _ _ _ _ h).1, (view_nda s _).1 _ _ _ _ h⟩
 generalize parseF s = R0 at *
 refine enter Tryz.func7 rfl Tryz.ntmps7 rfl (fun a hk => ?_)
 (repeat' (first|((first|refine wx1 ?_|refine wx2 ?_ ?_<;>intro hp|refine s_end hk ?_)<;>(clear hk a;intro a hk))|((first|refine wx3 ?_;intro w b|refine wx4 ?_;intro w|refine wx5 ?_;intro w v);clear hk hS a;intro hS a hk)|refine wx0 ?_|fail))
 rename Nat => b2
 refine sg hk (g_callO hk (hf := by kernel_rfl) (hc := tokens_any s (by omega) _) (h := ?_));clear hk a;rintro vk w hS1 a hk;replace hS := hS.call hS1;clear hS1
 rw [List.cons_append, List.nil_append] at hS
 (repeat' (first|((first|refine wx1 ?_|refine wx2 ?_ ?_<;>intro hp|refine s_end hk ?_)<;>(clear hk a;intro a hk))|((first|refine wx3 ?_;intro w b|refine wx4 ?_;intro w|refine wx5 ?_;intro w v);clear hk hS a;intro hS a hk)|refine wx0 ?_|fail))
 refine sg hk (g_callO hk (hf := by kernel_rfl) (hc := read8_all s vk hs (2 * s.size + 2) 0 0 0 _ _ _ (by omega) (by omega) (by omega) rfl ht hS) (h := ?_));clear hk hS a;intro vr w hS a hk
 cases hv : viewF s (2 * s.size + 2) 0 0 with
 | no p e =>
  rw [hv] at hS hR
  obtain ⟨a3, tk, rfl, ht3, hp3, he3, hS⟩ := hS
  simp only at hR
  generalize hT : toksL s 0 = T at *
  have hgm : (T.map tkC)[a3]? = some (tkC tk) := by rw [List.getElem?_map, ht3];rfl
  have hal : a3 < T.length := lt_of_get ht3
  have hml : (T.map tkC).length = T.length := List.length_map _
  have q1 : (tkC tk).2.1 = (tk.at_ : Int) := rfl
  (repeat' (first|((first|refine wx1 ?_|refine wx2 ?_ ?_<;>intro hp|refine s_end hk ?_)<;>(clear hk a;intro a hk))|((first|refine wx3 ?_;intro w b|refine wx4 ?_;intro w|refine wx5 ?_;intro w v);clear hk hS a;intro hS a hk)|refine wx0 ?_|fail))
  replace hS := hS.sub (L' := pts b2 nd0 42 :: OwT 79 ((T).map tkC) vk :: L) (.cons atx (.cons atx (by repeat (first | exact Sub.refl | apply Sub.under))))
  refine wp_drawnU1 9 mixed (by kernel_rfl) hk hS ?_;clear hk hS a
  (repeat' (first|(show ObxE _ _ _ _ _ _ _ _ _ (_::_) _ _ _;first|refine ox1 ?_|refine ox2 ?_ ?_<;>intro hp)|fail))
  refine' obe_upd (pts b2 nd0 42) (V := fun _ => pts b2 nd0 42) (fun us a w X hk hd hS hL => ?_) ?_
  ·(have hk := Kn.vw hk vwx;exact g_store hk hS (fun _ h => h) (hsz := zT rfl))
  (repeat' (first|(show ObxE _ _ _ _ _ _ _ _ _ (_::_) _ _ _;first|refine ox1 ?_|refine ox2 ?_ ?_<;>intro hp)|fail))
  refine obe_nil ⟨rfl, ?_⟩;intro us a w hk hS
  simp only [resE] at hS
  (repeat' (first|((first|refine wx1 ?_|refine wx2 ?_ ?_<;>intro hp|refine s_end hk ?_)<;>(clear hk a;intro a hk))|((first|refine wx3 ?_;intro w b|refine wx4 ?_;intro w|refine wx5 ?_;intro w v);clear hk hS a;intro hS a hk)|refine wx0 ?_|fail))
  refine done3R hk rfl (.str hS (hT := aT rfl) (hs := zT rfl)) (.tmp rfl) (.tmp rfl) (h := ?_)
  rw [hR]
  refine ⟨noN, ?_, St.noTree (hS.sub (by repeat (first | exact Sub.refl | apply Sub.under)))⟩
  show Value.tuple #[.agg nd0.toArray, .int .i64 (tk.at_ : Int), .int .i64 e] = _
  rw [hp3];rfl
 | ok t j =>
  rw [hv] at hS hR
  obtain ⟨u, a3, rfl, hd3, hS⟩ := hS
  simp only at hR
  have ht3 := drop_hd hd3
  obtain ⟨hf1, hf2⟩ := hfit t j hv
  generalize hT : toksL s 0 = T at *
  generalize hg0 : tokF s j = tk at *
  have hgm : (T.map tkC)[a3]? = some (tkC tk) := by rw [List.getElem?_map, ht3];rfl
  have hal : a3 < T.length := lt_of_get ht3
  have hml : (T.map tkC).length = T.length := List.length_map _
  have q1 : (tkC tk).2.1 = (tk.at_ : Int) := rfl
  have q2 : (tkC tk).1 = (tk.kind : Int) := rfl
  obtain ⟨⟨k2, tag2, key2, text2, ⟨x12, x22, x32⟩, ⟨y12, y22, y32⟩, ⟨z12, z22, z32⟩, ⟨e2, lv2, mm2, d2, pp2, qq2⟩, ⟨u12, u22, u32⟩⟩, rfl, hS1⟩ := St.tree hS .here
  clear hS
  have hS := hS1
  clear hS1
  by_cases hk0 : tk.kind = 0
  ·rw [if_pos hk0] at hR
   (repeat' (first|((first|refine wx1 ?_|refine wx2 ?_ ?_<;>intro hp|refine s_end hk ?_)<;>(clear hk a;intro a hk))|((first|refine wx3 ?_;intro w b|refine wx4 ?_;intro w|refine wx5 ?_;intro w v);clear hk hS a;intro hS a hk)|refine wx0 ?_|fail))
   have hfa : FitsW t ∧ NdA t := ⟨hf1, hf2⟩
   refine sg hk (g_callO hk (hf := by kernel_rfl) (hc := sorted8_any _ t (k2, tag2, key2, text2, ⟨x12, x22, x32⟩, ⟨y12, y22, y32⟩, ⟨z12, z22, z32⟩, (e2, lv2, mm2, d2, pp2, qq2), ⟨u12, u22, u32⟩) (fun w => TrR w t (k2, tag2, key2, text2, ⟨x12, x22, x32⟩, ⟨y12, y22, y32⟩, ⟨z12, z22, z32⟩, (e2, lv2, mm2, d2, pp2, qq2), ⟨u12, u22, u32⟩)) _ _ _ (Nat.lt_succ_self _) hf1 hf2 (TrR.stays _ _) (fun g h => h) (hS.sub (.cons atx .refl))) (h := ?_));clear hk hS a;intro vr w hS a hk
   obtain ⟨⟨k3, tag3, key3, text3, ⟨x13, x23, x33⟩, ⟨y13, y23, y33⟩, ⟨z13, z23, z33⟩, ⟨e3, lv3, mm3, d3, pp3, qq3⟩, ⟨u13, u23, u33⟩⟩, rfl, hS1⟩ := St.shT hS .here
   clear hS
   have hS := hS1
   clear hS1
   (repeat' (first|((first|refine wx1 ?_|refine wx2 ?_ ?_<;>intro hp|refine s_end hk ?_)<;>(clear hk a;intro a hk))|((first|refine wx3 ?_;intro w b|refine wx4 ?_;intro w|refine wx5 ?_;intro w v);clear hk hS a;intro hS a hk)|refine wx0 ?_|fail))
   refine done3R hk rfl (.str hS (hT := aT rfl) (hs := zT rfl)) (.tmp rfl) (.tmp rfl) (h := ?_)
   rw [hR]
   exact ⟨(k3, tag3, key3, text3, ⟨x13, x23, x33⟩, ⟨y13, y23, y33⟩, ⟨z13, z23, z33⟩, (e3, lv3, mm3, d3, pp3, qq3), ⟨u13, u23, u33⟩), rfl, rdH.toS (K := fun g => TrR g t (k2, tag2, key2, text2, ⟨x12, x22, x32⟩, ⟨y12, y22, y32⟩, ⟨z12, z22, z32⟩, (e2, lv2, mm2, d2, pp2, qq2), ⟨u12, u22, u32⟩) ∧ TrR g (snapT t) (k3, tag3, key3, text3, ⟨x13, x23, x33⟩, ⟨y13, y23, y33⟩, ⟨z13, z23, z33⟩, (e3, lv3, mm3, d3, pp3, qq3), ⟨u13, u23, u33⟩)) (fun g hg => hg.2) (hS.sub (.cons atx sbx))⟩
  ·rw [if_neg hk0] at hR
   (repeat' (first|((first|refine wx1 ?_|refine wx2 ?_ ?_<;>intro hp|refine s_end hk ?_)<;>(clear hk a;intro a hk))|((first|refine wx3 ?_;intro w b|refine wx4 ?_;intro w|refine wx5 ?_;intro w v);clear hk hS a;intro hS a hk)|refine wx0 ?_|fail))
   replace hS := hS.sub (L' := pts b2 nd0 42 :: OwT 79 ((T).map tkC) vk :: L) (.cons atx (.cons atx (by repeat (first | exact Sub.refl | apply Sub.under))))
   refine wp_drawnU1 9 mixed (by kernel_rfl) hk hS ?_;clear hk hS a
   (repeat' (first|(show ObxE _ _ _ _ _ _ _ _ _ (_::_) _ _ _;first|refine ox1 ?_|refine ox2 ?_ ?_<;>intro hp)|fail))
   refine' obe_upd (pts b2 nd0 42) (V := fun _ => pts b2 nd0 42) (fun us a w X hk hd hS hL => ?_) ?_
   ·(have hk := Kn.vw hk vwx;exact g_store hk hS (fun _ h => h) (hsz := zT rfl))
   (repeat' (first|(show ObxE _ _ _ _ _ _ _ _ _ (_::_) _ _ _;first|refine ox1 ?_|refine ox2 ?_ ?_<;>intro hp)|fail))
   refine obe_nil ⟨rfl, ?_⟩;intro us a w hk hS
   simp only [resE] at hS
   (repeat' (first|((first|refine wx1 ?_|refine wx2 ?_ ?_<;>intro hp|refine s_end hk ?_)<;>(clear hk a;intro a hk))|((first|refine wx3 ?_;intro w b|refine wx4 ?_;intro w|refine wx5 ?_;intro w v);clear hk hS a;intro hS a hk)|refine wx0 ?_|fail))
   refine done3R hk rfl (.str hS (hT := aT rfl) (hs := zT rfl)) (.tmp rfl) (.tmp rfl) (h := ?_)
   rw [hR]
   exact ⟨noN, rfl, St.noTree (hS.sub (by repeat (first | exact Sub.refl | apply Sub.under)))⟩
end Go.Proofs.YtnjmonkehjlaoaaGreatDoor
namespace Go.Proofs.YtnjmonkehjlaoaaGreatDoor
open Go.RowKit
set_option maxRecDepth 100000
attribute [local irreducible] Go.Code.wpIn Go.wpListIn Go.Calls Gives Go.Exit.then Go.Exit.inBlock Done ObxE
theorem view_all : ∀ f, VC f := by
 intro f
 induction f using Nat.strongRecOn with
 | _ f ih =>
 intro br s i op B L w hs hi hop hf hS
 obtain ⟨m, rfl⟩ : ∃ m, f = m + 1 := ⟨f - 1, by omega⟩
 have ihm : ∀ x, x < m → VC x := fun x hx => ih x (Nat.lt_succ_of_lt hx)
 have hat := tok_at_ hi
 have hle := scan_le blkB s _ i (Nat.le_refl _) hi
 have hge := scan_ge blkB s _ i (Nat.le_refl _)
 have hsk := tok_scan s i
 have hel := tok_else (s := s) (i := i)
 have h2 := @tok_2 s i
 have h1 := @tok_1 s i
 have hR : viewF s (m + 1) i op = viewF s (m + 1) i op := rfl
 conv at hR => rhs;simp only [viewF]
 refine enterP Tryz.func21 rfl Tryz.ntmps21 rfl (fun a hk => ?_)
 generalize viewF s (m + 1) i op = R0 at *
 (repeat' (first|((first|refine wx1 ?_|refine wx2 ?_ ?_<;>intro hp|refine s_end hk ?_)<;>(clear hk a;intro a hk))|((first|refine wx3 ?_;intro w b|refine wx4 ?_;intro w|refine wx5 ?_;intro w v);clear hk hS a;intro hS a hk)|refine wx0 ?_|fail))
 rename Nat => b2
 refine sg hk (g_callO hk (hf := by kernel_rfl) (hc := next_any br s i op (by omega) hi (hS.sub (.cons atx .refl))) (h := ?_));clear hk hS a;intro vr w hS a hk
 obtain ⟨rfl, hS⟩ := hS
 generalize scan blkB s i = q at *
 by_cases h39 : ∃ h : q < s.size, s[q].toNat = 39
 ·obtain ⟨hql, hqb⟩ := h39
  have hnx : nextB s q = 39 := by rw [nextB_is hql, hqb];rfl
  rw [hnx] at hk
  (repeat' (first|((first|refine wx1 ?_|refine wx2 ?_ ?_<;>intro hp|refine s_end hk ?_)<;>(clear hk a;intro a hk))|((first|refine wx3 ?_;intro w b|refine wx4 ?_;intro w|refine wx5 ?_;intro w v);clear hk hS a;intro hS a hk)|refine wx0 ?_|fail))
  refine sgP hk ((g_callP hk (hf := by kernel_rfl) (hc := rdtext_any br s q op (by omega) hql hqb (hS.sub (.cons atx .refl)))).mono (fun v w h => ?_) (fun ch w h => ?_))
  rotate_left
  ·clear hk hS a
   intro a hk
   rw [hsk] at h
   obtain ⟨h5, rfl, hS⟩ := h
   rw [if_neg (by omega), if_neg (by omega)] at hR
   (repeat (first | refine then_panic ?_ | refine inBlock_panic ?_))
   exact DoneP.panic hk ⟨_, 2, hR, rfl, hS.sub sbx⟩
  ·clear hk hS a
   intro a hk
   rw [hsk] at h
   obtain ⟨h3, hS⟩ := h
   rw [if_pos h3] at hR
   obtain ⟨⟨k2, tag2, key2, text2, ⟨x12, x22, x32⟩, ⟨y12, y22, y32⟩, ⟨z12, z22, z32⟩, ⟨e2, lv2, m2, d2, p2, q2⟩, ⟨u12, u22, u32⟩⟩, rfl, hS1⟩ := St.tree hS .here
   clear hS
   have hS := hS1
   clear hS1
   (repeat' (first|((first|refine wx1 ?_|refine wx2 ?_ ?_<;>intro hp|refine s_end hk ?_)<;>(clear hk a;intro a hk))|((first|refine wx3 ?_;intro w b|refine wx4 ?_;intro w|refine wx5 ?_;intro w v);clear hk hS a;intro hS a hk)|refine wx0 ?_|fail))
   refine DoneP.ret (done1R hk rfl (.str hS (hT := aT rfl) (hs := zT rfl)) (h := ⟨_, _, hR, ?_⟩))
   rw [snapT]
   exact treeH.of (h := (k2, tag2, key2, text2, ⟨x12, x22, x32⟩, ⟨y12, y22, y32⟩, ⟨z12, z22, z32⟩, (e2, lv2, m2, d2, p2, q2), ⟨u12, u22, u32⟩)) (hS.sub (.cons atx (.cons atx sbx)))
 ·by_cases h40 : ∃ h : q < s.size, s[q].toNat = 40
  ·obtain ⟨hql, hqb⟩ := h40
   have hnx : nextB s q = 40 := by rw [nextB_is hql, hqb];rfl
   rw [hnx] at hk
   have ht := h1 hql hqb
   have hfm : 2 * (s.size - q) + 1 ≤ m := by clear hel h1 h2 h39;omega
   rw [ht] at hR
   have hE : R0 = eleF s m q op := hR
   rw [hE]
   (repeat' (first|((first|refine wx1 ?_|refine wx2 ?_ ?_<;>intro hp|refine s_end hk ?_)<;>(clear hk a;intro a hk))|((first|refine wx3 ?_;intro w b|refine wx4 ?_;intro w|refine wx5 ?_;intro w v);clear hk hS a;intro hS a hk)|refine wx0 ?_|fail))
   refine sgP hk ((g_callP hk (hf := by kernel_rfl) (hc := elem_any m ihm br s q op B _ _ hs hql hqb hop hfm (hS.sub (.cons atx .refl)))).mono (fun v w h => ?_) (fun ch w h => ?_))
   rotate_left
   ·clear hk hS a
    intro a hk
    obtain ⟨p, e, hp, rfl, hS⟩ := h
    (repeat (first | refine then_panic ?_ | refine inBlock_panic ?_))
    exact DoneP.panic hk ⟨p, e, hp, rfl, hS.sub sbx⟩
   ·clear hk hS a
    intro a hk
    obtain ⟨t, r, hok, hS⟩ := h
    obtain ⟨⟨k2, tag2, key2, text2, ⟨x12, x22, x32⟩, ⟨y12, y22, y32⟩, ⟨z12, z22, z32⟩, ⟨e2, lv2, m2, d2, p2, q2⟩, ⟨u12, u22, u32⟩⟩, rfl, hS1⟩ := St.tree hS .here
    clear hS
    have hS := hS1
    clear hS1
    (repeat' (first|((first|refine wx1 ?_|refine wx2 ?_ ?_<;>intro hp|refine s_end hk ?_)<;>(clear hk a;intro a hk))|((first|refine wx3 ?_;intro w b|refine wx4 ?_;intro w|refine wx5 ?_;intro w v);clear hk hS a;intro hS a hk)|refine wx0 ?_|fail))
    refine DoneP.ret (done1R hk rfl (.str hS (hT := aT rfl) (hs := zT rfl)) (h := ⟨_, _, hok, ?_⟩))
    exact treeH.of (h := (k2, tag2, key2, text2, ⟨x12, x22, x32⟩, ⟨y12, y22, y32⟩, ⟨z12, z22, z32⟩, (e2, lv2, m2, d2, p2, q2), ⟨u12, u22, u32⟩)) (hS.sub (.cons atx (.cons atx sbx)))
  ·have n39 : nextB s q ≠ 39 := by
    by_cases hql : q < s.size
    ·rw [nextB_is hql];intro h;exact h39 ⟨hql, by omega⟩
    ·rw [nextB_no hql];decide
   have n40 : nextB s q ≠ 40 := by
    by_cases hql : q < s.size
    ·rw [nextB_is hql];intro h;exact h40 ⟨hql, by omega⟩
    ·rw [nextB_no hql];decide
   have hk13 : (tokF s i).kind ≠ 1 ∧ (tokF s i).kind ≠ 3 := by
    by_cases h41 : ∃ h : q < s.size, s[q].toNat = 41
    ·obtain ⟨hql, hqb⟩ := h41
     rw [h2 hql hqb];exact ⟨by show (2 : Nat) ≠ 1;decide, by show (2 : Nat) ≠ 3;decide⟩
    ·have := hel (fun hql => ⟨fun h => h39 ⟨hql, h⟩, fun h => h40 ⟨hql, h⟩, fun h => h41 ⟨hql, h⟩⟩)
     exact ⟨this.1, this.2.2⟩
   rw [if_neg hk13.2, if_neg hk13.1, hat] at hR
   (repeat' (first|((first|refine wx1 ?_|refine wx2 ?_ ?_<;>intro hp|refine s_end hk ?_)<;>(clear hk a;intro a hk))|((first|refine wx3 ?_;intro w b|refine wx4 ?_;intro w|refine wx5 ?_;intro w v);clear hk hS a;intro hS a hk)|refine wx0 ?_|fail))
   refine sgP hk ((g_callP hk (hf := by kernel_rfl) (hc := fail_any q 2 _)).mono (fun v w h => h.elim) (fun ch w h a hk => ?_))
   obtain ⟨rfl, hS1⟩ := h
   (repeat (first | refine then_panic ?_ | refine inBlock_panic ?_))
   exact DoneP.panic hk ⟨_, 2, hR, rfl, (hS.call0 hS1).sub sbx⟩
end Go.Proofs.YtnjmonkehjlaoaaGreatDoor
namespace Go.Proofs.YtnjmonkehjlaoaaGreatDoor
open Go.RowKit
set_option maxRecDepth 100000
attribute [local irreducible] Go.Code.wpIn Go.wpListIn Go.Calls Gives Go.Exit.then Go.Exit.inBlock Done ObxE
section
variable {B : Bs} {L : List HP} {w : World}
abbrev varsL (b1 b2 b3 : Nat) (ns : List Value) (p e : Int) (L : List HP) : List HP := pts b1 ns 31 :: pts b2 [.int .i64 p] 3 :: pts b3 [.int .i64 e] 32 :: L
theorem catch_idle (b1 b2 b3 : Nat) (ns : List Value) (p e : Int) (hS : St B (varsL b1 b2 b3 ns p e L) w) :
  CallsDIn Fence.wide 0 Tryz.prog 20 #[.pointer (some ⟨b1, 0, none⟩), .pointer (some ⟨b2, 0, none⟩), .pointer (some ⟨b3, 0, none⟩)] .returning w
   (fun en u w' => (∃ v, en = .returned v) ∧ settle u = .returning ∧ St B (varsL b1 b2 b3 ns p e L) w') := by
 refine enterR (args := [.pointer (some ⟨b1, 0, none⟩), .pointer (some ⟨b2, 0, none⟩), .pointer (some ⟨b3, 0, none⟩)]) Tryz.func20 rfl Tryz.ntmps20 rfl (fun a c₀ cs hu hk => ?_)
 refine wpSIn_seq ?_
 refine q_rec0 hu hk rfl rfl rfl (fun a hk => ?_)
 refine q_rest (u := .returning) (R2 := fun w' => St B (varsL b1 b2 b3 ns p e L) w') (by cases c₀;simp only at hu;subst hu;rfl) (fun v w h => ⟨⟨_, rfl⟩, rfl, h⟩) ?_
 (repeat' (first|((first|refine wx1 ?_|refine wx2 ?_ ?_<;>intro hp|refine s_end hk ?_)<;>(clear hk a;intro a hk))|((first|refine wx3 ?_;intro w b|refine wx4 ?_;intro w|refine wx5 ?_;intro w v);clear hk hS a;intro hS a hk)|refine wx0 ?_|fail))
 refine sg hk (g_asN hk ?_ Tryz.underlying65 (oT rfl));clear hk a;intro a hk
 (repeat' (first|((first|refine wx1 ?_|refine wx2 ?_ ?_<;>intro hp|refine s_end hk ?_)<;>(clear hk a;intro a hk))|((first|refine wx3 ?_;intro w b|refine wx4 ?_;intro w|refine wx5 ?_;intro w v);clear hk hS a;intro hS a hk)|refine wx0 ?_|fail))
 refine sg hk (g_neI hk ?_ (by kernel_rfl));clear hk a;intro a hk
 (repeat' (first|((first|refine wx1 ?_|refine wx2 ?_ ?_<;>intro hp|refine s_end hk ?_)<;>(clear hk a;intro a hk))|((first|refine wx3 ?_;intro w b|refine wx4 ?_;intro w|refine wx5 ?_;intro w v);clear hk hS a;intro hS a hk)|refine wx0 ?_|fail))
 exact done0n hk rfl (h := hS.sub (.cons atx (.cons atx (.cons atx sbx))))
theorem catch_panic (b1 b2 b3 : Nat) (ns : List Value) (hns : ns.length = 14) (p e : Int) (q : Nat) (c : Int) (hS : St B (varsL b1 b2 b3 ns p e L) w) :
  CallsDIn Fence.wide 0 Tryz.prog 20 #[.pointer (some ⟨b1, 0, none⟩), .pointer (some ⟨b2, 0, none⟩), .pointer (some ⟨b3, 0, none⟩)] (.panicking (thrown q c)) w
   (fun en u w' => (∃ v, en = .returned v) ∧ settle u = .returning ∧ St B (varsL b1 b2 b3 nd0 q c L) w') := by
 refine enterR (args := [.pointer (some ⟨b1, 0, none⟩), .pointer (some ⟨b2, 0, none⟩), .pointer (some ⟨b3, 0, none⟩)]) Tryz.func20 rfl Tryz.ntmps20 rfl (fun a c₀ cs hu hk => ?_)
 refine wpSIn_seq ?_
 refine q_rec1 hu hk rfl rfl rfl (fun a hk => ?_)
 refine q_rest (u := .panicking [{ v := .iface 65 (.agg #[.int .i64 (q : Int), .int .i64 c]), recovered := true }]) (R2 := fun w' => St B (varsL b1 b2 b3 nd0 q c L) w') rfl (fun v w h => ⟨⟨_, rfl⟩, rfl, h⟩) ?_
 (repeat' (first|((first|refine wx1 ?_|refine wx2 ?_ ?_<;>intro hp|refine s_end hk ?_)<;>(clear hk a;intro a hk))|((first|refine wx3 ?_;intro w b|refine wx4 ?_;intro w|refine wx5 ?_;intro w v);clear hk hS a;intro hS a hk)|refine wx0 ?_|fail))
 refine sg hk (g_asY hk ?_ Tryz.underlying65);clear hk a;intro a hk
 obtain ⟨n1, n2, n3, n4, n5, n6, n7, n8, n9, n10, n11, n12, n13, n14, rfl⟩ : ∃ n1 n2 n3 n4 n5 n6 n7 n8 n9 n10 n11 n12 n13 n14, ns = [n1, n2, n3, n4, n5, n6, n7, n8, n9, n10, n11, n12, n13, n14] := by
  match ns, hns with
  | [n1, n2, n3, n4, n5, n6, n7, n8, n9, n10, n11, n12, n13, n14], _ => exact ⟨n1, n2, n3, n4, n5, n6, n7, n8, n9, n10, n11, n12, n13, n14, rfl⟩
 (repeat' (first|((first|refine wx1 ?_|refine wx2 ?_ ?_<;>intro hp|refine s_end hk ?_)<;>(clear hk a;intro a hk))|((first|refine wx3 ?_;intro w b|refine wx4 ?_;intro w|refine wx5 ?_;intro w v);clear hk hS a;intro hS a hk)|refine wx0 ?_|fail))
 replace hS := hS.sub (L' := pts b1 [n1, n2, n3, n4, n5, n6, n7, n8, n9, n10, n11, n12, n13, n14] 31 :: pts b2 [.int .i64 p] 3 :: _) (.cons atx (.cons atx .refl))
 refine wp_drawnU2 7 mixed (by kernel_rfl) hk hS ?_;clear hk hS a
 (repeat' (first|(show ObxE _ _ _ _ _ _ _ _ _ (_::_) _ _ _;first|refine ox1 ?_|refine ox2 ?_ ?_<;>intro hp)|fail))
 refine' obe_upd (pts b1 [n1, n2, n3, n4, n5, n6, n7, n8, n9, n10, n11, n12, n13, n14] 31) (V := fun _ => pts b1 nd0 31) (fun us a w X hk hd hS hL => ?_) ?_
 ·have hk := Kn.vw hk vwx
  exact g_store hk hS (fun w' hS' => hS') (hsz := zT rfl)
 refine' obe_upd (pts b2 [.int .i64 p] 3) (V := fun _ => pts b2 [.int .i64 q] 3) (fun us a w X hk hd hS hL => ?_) ?_
 ·have hk := Kn.vw hk vwx
  exact g_store hk hS (fun w' hS' => hS') (hsz := zT rfl)
 refine obe_nil ⟨rfl, ?_⟩;intro us a w hk hS
 simp only [resE, List.cons_append, List.nil_append, Nat.zero_add, Nat.reduceAdd] at hS
 (repeat' (first|((first|refine wx1 ?_|refine wx2 ?_ ?_<;>intro hp|refine s_end hk ?_)<;>(clear hk a;intro a hk))|((first|refine wx3 ?_;intro w b|refine wx4 ?_;intro w|refine wx5 ?_;intro w v);clear hk hS a;intro hS a hk)|refine wx0 ?_|fail))
 exact done0n hk rfl (h := hS.sub (.cons atx (.cons atx (.cons atx sbx))))
end
end Go.Proofs.YtnjmonkehjlaoaaGreatDoor
namespace Go.Proofs.YtnjmonkehjlaoaaGreatDoor
open Go.RowKit
set_option maxRecDepth 100000
attribute [local irreducible] Go.Code.wpIn Go.wpListIn Go.Calls Gives Go.Exit.then Go.Exit.inBlock Done ObxE
theorem tok_ne0 {s : ByteArray} {i : Nat} (hj : scan blkB s i < s.size) : (tokF s i).kind ≠ 0 := by
 by_cases n1 : s[scan blkB s i].toNat = 40
 ·rw [tok_1 hj n1];show (1 : Nat) ≠ 0;decide
 ·by_cases n2 : s[scan blkB s i].toNat = 41
  ·rw [tok_2 hj n2];show (2 : Nat) ≠ 0;decide
  ·by_cases n3 : s[scan blkB s i].toNat = 39
   ·rcases tok_q hj n3 with h | h <;> rw [h] <;> decide
   ·by_cases hv : visB s[scan blkB s i] = true
    ·rw [tok_4 hj hv];show (4 : Nat) ≠ 0;decide
    ·rw [tok_6 hj n1 n2 n3 hv];show (5 : Nat) ≠ 0;decide
section
variable {P : Program} {a : Act} {w : World} {n : Nat} {l : List (Nat × Value)} {df : List Deferred} {fn : Func}
theorem res3 {r r' r'' : ResultVar} {v v' v'' : Value} (hk : Kn df n a l) (hr : fn.results = #[r, r', r'']) (h1 : ResV P l w r v) (h2 : ResV P l w r' v') (h3 : ResV P l w r'' v'') : (results fn a.tmps).run P w = .ok (.tuple #[v, v', v'']) w := by
 have e1 := h1.run hk
 have e2 := h2.run hk
 have e3 := h3.run hk
 rw [results_rv, hr]
 simp [e1, e2, e3]
end
theorem inv_fn {P : Program} {w : World} {f : FuncId} {cap : Array Value} (hf : callable P f = true) : (invoke (.fn (.func f) cap) #[]).run P w = .ok (.enter f cap) w := by
 have e : (#[] ++ cap : Array Value) = cap := by simp
 simp only [invoke]
 rw [e]
 exact callFunc_run hf
def ParseR (B : Bs) (L : List HP) (r : Rd Tree) (v : Value) (w : World) : Prop := match r with
 | .ok t _ => ∃ u, v = .tuple #[u, .int .i64 0, .int .i64 0] ∧ St B (treeH (snapT t) u :: L) w
 | .no p e => v = .tuple #[.agg nd0.toArray, .int .i64 (p : Int), .int .i64 e] ∧ St B L w
section
variable {B : Bs} {L : List HP} {w : World}
set_option maxHeartbeats 4000000 in
theorem parseL_any (s : ByteArray) (hs : s.size ≤ 100000000) (hS : St B L w) : Calls Tryz.prog 4 #[.string s] w (Ret (ParseR B L (parseF s))) := by
 refine enterD Tryz.func4 rfl Tryz.ntmps4 rfl (fun a hk => ?_)
 by_cases hbig : 20000 < s.size
 ·have hR : parseF s = .no 0 3 := by unfold parseF;rw [if_pos hbig]
  rw [hR]
  (repeat' (first|((first|refine wx1 ?_|refine wx2 ?_ ?_<;>intro hp|refine s_end hk ?_)<;>(clear hk a;intro a hk))|((first|refine wx3 ?_;intro w b|refine wx4 ?_;intro w|refine wx5 ?_;intro w v);clear hk hS a;intro hS a hk)|refine wx0 ?_|fail))
  refine DoneD.done hk (res3 hk rfl (.str hS (hT := aT rfl) (hs := zT rfl)) (.one hS (hT := aT rfl)) (.one hS (hT := aT rfl))) ⟨rfl, hS.sub sbx⟩
 ·have hR : parseF s = match viewF s (2 * s.size + 2) 0 0 with
   | .ok n j => if (tokF s j).kind = 0 then .ok n 0 else .no (tokF s j).at_ 2
   | .no a e => .no a e := by
   unfold parseF;rw [if_neg hbig]
   cases viewF s (2 * s.size + 2) 0 0 <;> rfl
  rw [hR]
  clear hR
  (repeat' (first|((first|refine wx1 ?_|refine wx2 ?_ ?_<;>intro hp|refine s_end hk ?_)<;>(clear hk a;intro a hk))|((first|refine wx3 ?_;intro w b|refine wx4 ?_;intro w|refine wx5 ?_;intro w v);clear hk hS a;intro hS a hk)|refine wx0 ?_|fail))
  refine su_defer hk ?_ (resolve_fn hk rfl)
  clear hk a;intro a hk
  (repeat' (first|((first|refine wx1 ?_|refine wx2 ?_ ?_<;>intro hp|refine s_end hk ?_)<;>(clear hk a;intro a hk))|((first|refine wx3 ?_;intro w b|refine wx4 ?_;intro w|refine wx5 ?_;intro w v);clear hk hS a;intro hS a hk)|refine wx0 ?_|fail))
  rename_i x3 x2 b1 x1 b2 x0 b3
  refine sgP hk ((g_callP hk (hf := by kernel_rfl) (hc := view_all (2 * s.size + 2) b s 0 0 B _ _ (by omega) (Nat.zero_le _) (by omega) (by omega) (hS.sub (.cons (A := rdr b s 0 0) atx .refl)))).mono (fun v w h => ?_) (fun ch w h => ?_))
  rotate_left
  ·clear hk hS a
   intro a hk
   obtain ⟨p, e, hno, rfl, hS⟩ := h
   rw [hno]
   (repeat (first | refine then_panic ?_ | refine inBlock_panic ?_))
   refine DoneD.leave (f := 20) (args := #[.pointer (some ⟨b1, 0, none⟩), .pointer (some ⟨b2, 0, none⟩), .pointer (some ⟨b3, 0, none⟩)]) (.inr (.inr ⟨_, rfl, rfl⟩)) hk (inv_fn (by kernel_rfl)) (catch_panic b1 b2 b3 _ rfl 0 0 p e (hS.sub (.cons (A := pts b1 _ 31) atx (.cons (A := pts b2 _ 3) atx (.cons (A := pts b3 _ 32) atx sbx))))) (fun w' hS' => ⟨_, res3 hk rfl (.str hS' (hT := aT rfl) (hs := zT rfl)) (.one hS' (hT := aT rfl)) (.one hS' (hT := aT rfl)), ?_⟩)
   exact ⟨rfl, hS'.sub sbx⟩
  ·clear hk hS a
   intro a hk
   obtain ⟨t, j, hok, hS⟩ := h
   have hvp := (view_pos s (2 * s.size + 2)).1 _ _ _ _ hok
   rw [hok]
   simp only
   obtain ⟨⟨k2, tag2, key2, text2, ⟨x12, x22, x32⟩, ⟨y12, y22, y32⟩, ⟨z12, z22, z32⟩, ⟨e2, lv2, m2, d2, p2, q2⟩, ⟨u12, u22, u32⟩⟩, rfl, hS1⟩ := St.tree hS .here
   clear hS
   have hS := hS1
   clear hS1
   (repeat' (first|((first|refine wx1 ?_|refine wx2 ?_ ?_<;>intro hp|refine s_end hk ?_)<;>(clear hk a;intro a hk))|((first|refine wx3 ?_;intro w b|refine wx4 ?_;intro w|refine wx5 ?_;intro w v);clear hk hS a;intro hS a hk)|refine wx0 ?_|fail))
   have hat := tok_at_ (s := s) (i := j) hvp.2
   have hn0 := tok_ne0 (s := s) (i := j)
   have hn1 := tok_e (s := s) (i := j)
   have hle := scan_le blkB s _ j (Nat.le_refl _) hvp.2
   refine sg hk (g_callO hk (hf := by kernel_rfl) (hc := skip_any b s j 0 hs hvp.2 (hS.sub (.cons atx .refl))) (h := ?_));clear hk hS a;intro vr w hS a hk
   generalize scan blkB s j = q at *
   by_cases hq : q < s.size
   ·rw [if_neg (hn0 hq), hat]
    (repeat' (first|((first|refine wx1 ?_|refine wx2 ?_ ?_<;>intro hp|refine s_end hk ?_)<;>(clear hk a;intro a hk))|((first|refine wx3 ?_;intro w b|refine wx4 ?_;intro w|refine wx5 ?_;intro w v);clear hk hS a;intro hS a hk)|refine wx0 ?_|fail))
    refine sgP hk ((g_callP hk (hf := by kernel_rfl) (hc := fail_any q 2 _)).mono (fun v w h => h.elim) (fun ch w h a hk => ?_))
    obtain ⟨rfl, hS1⟩ := h
    replace hS := hS.call0 hS1
    (repeat (first | refine then_panic ?_ | refine inBlock_panic ?_))
    refine DoneD.leave (f := 20) (args := #[.pointer (some ⟨b1, 0, none⟩), .pointer (some ⟨b2, 0, none⟩), .pointer (some ⟨b3, 0, none⟩)]) (.inr (.inr ⟨_, rfl, rfl⟩)) hk (inv_fn (by kernel_rfl)) (catch_panic b1 b2 b3 _ rfl 0 0 q 2 (hS.sub (.cons (A := pts b1 _ 31) atx (.cons (A := pts b2 _ 3) atx (.cons (A := pts b3 _ 32) atx sbx))))) (fun w' hS' => ⟨_, res3 hk rfl (.str hS' (hT := aT rfl) (hs := zT rfl)) (.one hS' (hT := aT rfl)) (.one hS' (hT := aT rfl)), ?_⟩)
    exact ⟨rfl, hS'.sub sbx⟩
   ·rw [if_pos (by rw [hn1 hq])]
    (repeat' (first|((first|refine wx1 ?_|refine wx2 ?_ ?_<;>intro hp|refine s_end hk ?_)<;>(clear hk a;intro a hk))|((first|refine wx3 ?_;intro w b|refine wx4 ?_;intro w|refine wx5 ?_;intro w v);clear hk hS a;intro hS a hk)|refine wx0 ?_|fail))
    refine DoneD.leave (f := 20) (args := #[.pointer (some ⟨b1, 0, none⟩), .pointer (some ⟨b2, 0, none⟩), .pointer (some ⟨b3, 0, none⟩)]) (.inl ⟨rfl, rfl⟩) hk (inv_fn (by kernel_rfl)) (catch_idle b1 b2 b3 _ 0 0 (hS.sub (.cons (A := pts b1 _ 31) atx (.cons (A := pts b2 _ 3) atx (.cons (A := pts b3 _ 32) atx .refl))))) (fun w' hS' => ⟨_, res3 hk rfl (.str hS' (hT := aT rfl) (hs := zT rfl)) (.one hS' (hT := aT rfl)) (.one hS' (hT := aT rfl)), ?_⟩)
    refine ⟨_, rfl, ?_⟩
    exact treeH.of (h := (k2, tag2, key2, text2, ⟨x12, x22, x32⟩, ⟨y12, y22, y32⟩, ⟨z12, z22, z32⟩, (e2, lv2, m2, d2, p2, q2), ⟨u12, u22, u32⟩)) (hS'.sub (.cons atx sbx))
end
end Go.Proofs.YtnjmonkehjlaoaaGreatDoor
namespace Go.Proofs.YtnjmonkehjlaoaaGreatDoor
open Go.RowKit
section
variable {df : List Deferred} {P : Program} {n : Nat} {l : List (Nat × Value)} {w0 : Bs} {L : List HP}
variable {os : List Oper} {i : Nat} {o : Oper} {r : List Oper} {acc : List (Nat × Nat × HV)} {HR : List (Nat × ((Nat → Value) → Value → HP))} {FinE : List (Nat × Nat × HV) → List (Nat × ((Nat → Value) → Value → HP)) → List HP → Prop} {TK : List HP}
theorem obe_via (t k : Nat) (f : Value → Value) {d : Nat} {h' : HV} (h : ∀ (us : Nat → Value) (a : Act) (w : World), Kn df n a (vwE acc l us (o.looksAt os.toArray)) → depE2 acc us w (o.looksAt os.toArray) → St w0 L w → Gives P o a w (fun v w' => v = f (us k) ∧ St w [] w'))
  (hr : ObxE df P n os l w0 L FinE (i + 1) r (pushE o.dst i (.fn [k] (fun l => f (l.getD 0 undef))) acc) HR TK) (ht : (o.looksAt os.toArray).contains t = true := by rfl) (hl : lkE acc t = some (d, h') := by rfl) (hs : k ∈ h'.srcs := by simp [HV.srcs])
  (hg : ∀ us, gdK os.toArray (vwE acc l us (o.looksAt os.toArray)) o.guard = some true := by intro us;rfl) : ObxE df P n os l w0 L FinE i (o :: r) acc HR TK :=
 ⟨.fn [k] (fun l => f (l.getD 0 undef)), ⟨⟨fun k' e => by simp only [HV.srcs, List.mem_singleton] at e;subst e;exact ⟨t, _, h', by simpa using ht, hl, .inr hs⟩, fun k T A V e => (by cases e)⟩, fun us a w X hk hd hS hX hd2 => .inr ⟨hg us, h us a w hk hd2 (hS.sub0 hX)⟩⟩, by simpa [HV.pre, pushR] using hr⟩
end
end Go.Proofs.YtnjmonkehjlaoaaGreatDoor
namespace Go.Proofs.YtnjmonkehjlaoaaGreatDoor
open Go.RowKit
set_option maxRecDepth 100000
attribute [local irreducible] Go.Code.wpIn Go.wpListIn Go.Calls Gives Go.Exit.then Go.Exit.inBlock Done ObxE
abbrev zSn : SnH := (0, 0, ⟨#[]⟩, ⟨#[]⟩, ⟨none, 0, 0⟩, ⟨none, 0, 0⟩, ⟨none, 0, 0⟩, ⟨none, 0, 0⟩)
theorem St.flat {g w0 w : World} {L : List HP} (h : St ⟨g, w0⟩ L w) : St w0 [] w := ⟨h.below, Frz.of_below h.below, fun _ => False, fun _ h => h.elim, trivial⟩
end Go.Proofs.YtnjmonkehjlaoaaGreatDoor
