/- Layer 8: the program's reader: an element, a view. More values that may be taken first in a region that draws its order; and cuts where orders meet. -/
import Derived.Test.YtnjmonkehjlaoaaGreatDoorG18
import Derived.Test.YtnjmonkehjlaoaaGreatDoorG13
import Derived.Test.YtnjmonkehjlaoaaGreatDoorG07
set_option linter.all false
namespace Go.Proofs.YtnjmonkehjlaoaaGreatDoor
open Go.RowKit
set_option maxRecDepth 100000
attribute [local irreducible] Go.Code.wpIn Go.wpListIn Go.Calls Gives Go.Exit.then Go.Exit.inBlock Done ObxE
def eleF (s : ByteArray) (f j op : Nat) : Rd Tree :=
 if 40 ≤ op then .no j 7
 else if (tokF s (j + 1)).kind = 4 ∧ nameS (tokF s (j + 1)).txt = true then elemF s f (tokF s (j + 1)).till (op + 1) ⟨2, (tokF s (j + 1)).txt, ⟨#[]⟩, [], [], [], o0⟩ [] []
 else .no (tokF s (j + 1)).at_ 2
abbrev RV (B : Bs) (L : List HP) (br : Nat) (s : ByteArray) (op : Nat) (r : Rd Tree) : Ending → World → Prop :=
 RoP (fun v w' => ∃ t j, r = .ok t j ∧ St B (treeH (snapT t) v :: rdr br s j op :: L) w') (fun ch w' => ∃ p e, r = .no p e ∧ ch = thrown p e ∧ St B L w')
def VC (f : Nat) : Prop := ∀ (br : Nat) (s : ByteArray) (i op : Nat) (B : Bs) (L : List HP) (w : World), s.size ≤ 20000 → i ≤ s.size → op ≤ 40 → 2 * (s.size - i) + 2 ≤ f → St B (rdr br s i op :: L) w →
 Calls Tryz.prog 21 #[.pointer (some ⟨br, 0, none⟩)] w (RV B L br s op (viewF s f i op))
structure ElS where
 i : Nat
 f : Nat
 n : Itm
 seen : List ByteArray
 kids : List Tree
 H : List NdH
 hc : Hd
 ha : Hd
 hs : Hd
 hh : Hd
theorem nextB_is {s : ByteArray} {j : Nat} (hj : j < s.size) : nextB s j = (s[j].toNat : Int) := by unfold nextB; rw [dif_pos hj]
theorem nextB_no {s : ByteArray} {j : Nat} (hj : ¬ j < s.size) : nextB s j = 0 := by unfold nextB; rw [dif_neg hj]
set_option maxHeartbeats 16000000 in
theorem elem_any (f : Nat) (ih : ∀ m, m < f → VC m) (br : Nat) (s : ByteArray) (j op : Nat) (B : Bs) (L : List HP) (w : World) (hs : s.size ≤ 20000) (hj : j < s.size) (hb : s[j].toNat = 40) (hop : op ≤ 40) (hf : 2 * (s.size - j) + 1 ≤ f) (hS : St B (rdr br s j op :: L) w) :
  Calls Tryz.prog 42 #[.pointer (some ⟨br, 0, none⟩)] w (RV B L br s op (eleF s f j op)) := by
 refine enterP Tryz.func42 rfl Tryz.ntmps42 rfl (fun a hk => ?_)
 unfold eleF
 by_cases h40 : 40 ≤ op
 ·rw [if_pos h40]
  (repeat' (first|((first|refine wx1 ?_|refine wx2 ?_ ?_<;>intro hp|refine s_end hk ?_)<;>(clear hk a;intro a hk))|((first|refine wx3 ?_;intro w b|refine wx4 ?_;intro w|refine wx5 ?_;intro w v);clear hk hS a;intro hS a hk)|refine wx0 ?_|fail))
  refine sgP hk ((g_callP hk (hf := by kernel_rfl) (hc := fail_any j 7 _)).mono (fun v w h => h.elim) (fun ch w h a hk => ?_))
  obtain ⟨rfl, hS1⟩ := h
  (repeat (first | refine then_panic ?_ | refine inBlock_panic ?_))
  exact DoneP.panic hk ⟨j, 7, rfl, rfl, (hS.call0 hS1).sub sbx⟩
 ·rw [if_neg h40]
  (repeat' (first|((first|refine wx1 ?_|refine wx2 ?_ ?_<;>intro hp|refine s_end hk ?_)<;>(clear hk a;intro a hk))|((first|refine wx3 ?_;intro w b|refine wx4 ?_;intro w|refine wx5 ?_;intro w v);clear hk hS a;intro hS a hk)|refine wx0 ?_|fail))
  rw [show ((j : Int) + 1) = ((j + 1 : Nat) : Int) by omega, show ((op : Int) + 1) = ((op + 1 : Nat) : Int) by omega] at hS
  refine sgP hk ((g_callP hk (hf := by kernel_rfl) (hc := word_any br s (j + 1) (op + 1) (by omega) (by omega) (hS.sub (.cons atx .refl)))).mono (fun v w h => ?_) (fun ch w h => ?_))
  rotate_left
  ·clear hk hS a
   intro a hk
   obtain ⟨h4, rfl, hS⟩ := h
   (repeat (first | refine then_panic ?_ | refine inBlock_panic ?_))
   exact DoneP.panic hk ⟨_, 2, if_neg (fun h => h4 h.1), rfl, hS.sub sbx⟩
  ·clear hk hS a
   intro a hk
   obtain ⟨h4, rfl, hS⟩ := h
   obtain ⟨ht1, ht2⟩ := tok_w (s := s) (i := j + 1) (by omega) h4
   obtain ⟨hm1, hm2⟩ := tok_till (s := s) (i := j + 1) (by omega) (by omega)
   generalize hg : tokF s (j + 1) = g at *
   (repeat' (first|((first|refine wx1 ?_|refine wx2 ?_ ?_<;>intro hp|refine s_end hk ?_)<;>(clear hk a;intro a hk))|((first|refine wx3 ?_;intro w b|refine wx4 ?_;intro w|refine wx5 ?_;intro w v);clear hk hS a;intro hS a hk)|refine wx0 ?_|fail))
   refine sg hk (g_callO hk (hf := by kernel_rfl) (hc := name_any g.txt (by omega) _) (h := ?_));clear hk a;rintro _ w ⟨rfl, hS1⟩ a hk;replace hS := hS.call0 hS1;clear hS1
   cases hn : nameS g.txt with
   | false =>
    rw [hn] at hk
    (repeat' (first|((first|refine wx1 ?_|refine wx2 ?_ ?_<;>intro hp|refine s_end hk ?_)<;>(clear hk a;intro a hk))|((first|refine wx3 ?_;intro w b|refine wx4 ?_;intro w|refine wx5 ?_;intro w v);clear hk hS a;intro hS a hk)|refine wx0 ?_|fail))
    refine sgP hk ((g_callP hk (hf := by kernel_rfl) (hc := fail_any g.at_ 2 _)).mono (fun v w h => h.elim) (fun ch w h a hk => ?_))
    obtain ⟨rfl, hS1⟩ := h
    (repeat (first | refine then_panic ?_ | refine inBlock_panic ?_))
    exact DoneP.panic hk ⟨_, 2, if_neg (fun h => by cases h.2), rfl, (hS.call0 hS1).sub sbx⟩
   | true =>
    rw [hn] at hk
    rw [if_pos ⟨h4, rfl⟩]
    (repeat' (first|((first|refine wx1 ?_|refine wx2 ?_ ?_<;>intro hp|refine s_end hk ?_)<;>(clear hk a;intro a hk))|((first|refine wx3 ?_;intro w b|refine wx4 ?_;intro w|refine wx5 ?_;intro w v);clear hk hS a;intro hS a hk)|refine wx0 ?_|fail))
    rename_i b2 x1 x2 x3 x4 x5
    refine sg hk (g_makeMap encT hS ?_);clear hk hS a;intro w mv hS a hk
    (repeat' (first|((first|refine wx1 ?_|refine wx2 ?_ ?_<;>intro hp|refine s_end hk ?_)<;>(clear hk a;intro a hk))|((first|refine wx3 ?_;intro w b|refine wx4 ?_;intro w|refine wx5 ?_;intro w v);clear hk hS a;intro hS a hk)|refine wx0 ?_|fail))
    have hS1 := ((((hS.nilT 9 ByteArray).nilT 139 PrS).nilT 140 PrI).nilT 31 NdH)
    replace hS := forR.nil hS1
    clear hS1
    replace hk := Kn.kp [0, 2, 5, 6] hk
    generalize hR0 : elemF s f g.till (op + 1) ⟨2, g.txt, ⟨#[]⟩, [], [], [], o0⟩ [] [] = R0
    refine wp_while (fun (_ : ElS) => []) (fun x => nodL b x.n.k x.n.tag x.n.key x.n.cl x.n.al x.n.sl x.n.o x.hc x.ha x.hs x.hh mv (x.seen.map keyP) (OwT 31 x.H x.hh.v :: forR (snapTs x.kids) x.H :: pts b2 nd0 31 :: rdr br s x.i (op + 1) :: L))
     (fun x => elemF s x.f x.i (op + 1) x.n x.seen x.kids = R0 ∧ x.i ≤ s.size ∧ 2 * (s.size - x.i) + 3 ≤ x.f ∧ x.f ≤ f ∧ (∀ y ∈ x.seen, GoodK y) ∧ x.n.cl.length ≤ x.i ∧ x.n.al.length ≤ x.i ∧ x.n.sl.length ≤ x.i ∧ x.kids.length ≤ x.i)
     (fun x => s.size - x.i) ⟨g.till, f, ⟨2, g.txt, ⟨#[]⟩, [], [], [], o0⟩, [], [], [], ⟨none, 0, 0⟩, ⟨none, 0, 0⟩, ⟨none, 0, 0⟩, ⟨none, 0, 0⟩⟩ hk skx (hS.sub (.cons atx (.cons atx (.cons atx (.cons atx (.cons atx (.cons atx (.cons atx (.cons atx (.cons atx sbx)))))))))) ⟨hR0, hm2, by show 2 * (s.size - g.till) + 3 ≤ f;omega, Nat.le_refl _, by simp, by simp, by simp, by simp, by simp⟩ ?_
    clear hk hS a hR0
    rintro ⟨i, fu, ⟨k, tag, key, cl, al, sl, ⟨e, lv, mo, d, p1, p2⟩⟩, seen, kids, H, hc, ha, hss, hh⟩ a w hk hS ⟨hR, hi, hfu, hff, hgd, lcl, lal, lsl, lks⟩
    simp only at hS hR hi hfu hff hgd lcl lal lsl lks
    obtain ⟨m, rfl⟩ : ∃ m, fu = m + 1 := ⟨fu - 1, by omega⟩
    simp only [elemF] at hR
    have hat := tok_at_ hi
    have hle := scan_le blkB s _ i (Nat.le_refl _) hi
    have hge := scan_ge blkB s _ i (Nat.le_refl _)
    have hsk := tok_scan s i
    have hvs := fun m => view_scan s m i (op + 1)
    have hel := tok_else (s := s) (i := i)
    have h2 := @tok_2 s i
    have h1 := @tok_1 s i
    have hq := @tok_q s i
    (repeat' (first|((first|refine wx1 ?_|refine wx2 ?_ ?_<;>intro hp|refine s_end hk ?_)<;>(clear hk a;intro a hk))|((first|refine wx3 ?_;intro w b|refine wx4 ?_;intro w|refine wx5 ?_;intro w v);clear hk hS a;intro hS a hk)|refine wx0 ?_|fail))
    refine sg hk (g_callO hk (hf := by kernel_rfl) (hc := next_any br s i (op + 1) (by omega) hi (hS.sub (.cons atx .refl))) (h := ?_));clear hk hS a;intro vr w hS a hk
    obtain ⟨rfl, hS⟩ := hS
    generalize scan blkB s i = q at *
    by_cases hcl : ∃ h : q < s.size, s[q].toNat = 41
    ·obtain ⟨hql, hqb⟩ := hcl
     have hnx : nextB s q = 41 := by rw [nextB_is hql, hqb];rfl
     rw [hnx] at hk
     rw [h2 hql hqb, if_pos rfl] at hR
     subst hR
     (repeat' (first|((first|refine wx1 ?_|refine wx2 ?_ ?_<;>intro hp|refine s_end hk ?_)<;>(clear hk a;intro a hk))|((first|refine wx3 ?_;intro w b|refine wx4 ?_;intro w|refine wx5 ?_;intro w v);clear hk hS a;intro hS a hk)|refine wx0 ?_|fail))
     rw [show ((q : Int) + 1) = ((q + 1 : Nat) : Int) by omega, show (((op + 1 : Nat) : Int) - 1) = (op : Int) by omega] at hS
     refine DoneP.ret (done1R hk rfl (.str hS (hT := aT rfl) (hs := zT rfl)) (h := ⟨_, _, rfl, ?_⟩))
     unfold Itm.tree
     rw [snapT]
     exact treeH.of (h := (k, tag, key, ⟨#[]⟩, hc, ha, hss, (e, lv, mo, d, p1, p2), hh)) (treeR.of (A1 := OwT 9 cl hc.v) (A2 := OwT 139 (snapF nmS al) ha.v) (A3 := OwT 140 (snapF nmI sl) hss.v) (A4 := OwT 31 H hh.v) (hS.sub (.cons atx (.cons atx (.cons atx (.cons atx (.cons atx (.cons atx sbx))))))))
    ·by_cases hvw : ∃ h : q < s.size, s[q].toNat = 40 ∨ s[q].toNat = 39
     ·obtain ⟨hql, hqb⟩ := hvw
      have hk24 : (tokF s i).kind ≠ 2 ∧ (tokF s i).kind ≠ 4 := by
       rcases hqb with hqb | hqb
       ·rw [h1 hql hqb];exact ⟨by show (1 : Nat) ≠ 2;decide, by show (1 : Nat) ≠ 4;decide⟩
       ·rcases hq hql hqb with h | h <;> rw [h] <;> exact ⟨by decide, by decide⟩
      rw [if_neg hk24.1, if_neg hk24.2] at hR
      obtain ⟨m', rfl⟩ : ∃ m', m = m' + 1 := ⟨m - 1, by omega⟩
      have hview := hvs m'
      have hFH := hS.foR (ts := snapTs kids) (H := H) atx
      have hHl : H.length = kids.length := by rw [hFH.1, snapTs_len]
      obtain ⟨ah, mh, rfl⟩ := SlT.hd (OwT.rd (hS.rd (A := OwT 31 H hh.v) atx))
      have hnx : nextB s q = 40 ∨ nextB s q = 39 := by
       rcases hqb with hqb | hqb
       ·left;rw [nextB_is hql, hqb];rfl
       ·right;rw [nextB_is hql, hqb];rfl
      generalize hvr : viewF s (m' + 1) i (op + 1) = vr0 at *
      rcases hnx with hnx | hnx
      all_goals rw [hnx] at hk
      all_goals (repeat' (first|((first|refine wx1 ?_|refine wx2 ?_ ?_<;>intro hp|refine s_end hk ?_)<;>(clear hk a;intro a hk))|((first|refine wx3 ?_;intro w b|refine wx4 ?_;intro w|refine wx5 ?_;intro w v);clear hk hS a;intro hS a hk)|refine wx0 ?_|fail))
      ·refine an_region (fun a w => ∃ t r H' hh', vr0 = .ok t r ∧ Kn [] 88 a [(0, .pointer (some ⟨br, 0, none⟩)), (2, .pointer (some ⟨b2, 0, none⟩)), (5, .pointer (some ⟨b, 0, none⟩)), (6, mv)] ∧ St B (nodL b k tag key cl al sl (e, lv, mo, d, p1, p2) hc ha hss hh' mv (seen.map keyP) (OwT 31 H' hh'.v :: forR (snapTs (kids ++ [t])) H' :: pts b2 nd0 31 :: rdr br s r (op + 1) :: L)) w) (fun ch w => ∃ p e, vr0 = .no p e ∧ ch = thrown p e ∧ St B L w) (hk.sub (l' := [(0, .pointer (some ⟨br, 0, none⟩)), (2, .pointer (some ⟨b2, 0, none⟩)), (5, .pointer (some ⟨b, 0, none⟩)), (6, mv)]) skx) mixed ?_ ?_ ?_
       ·rintro a w ⟨t, r, H', hh', rfl, hk, hS⟩
        have hvp := (view_pos s (m' + 1)).1 _ _ _ _ hvr
        have hrr : i < r ∧ r ≤ s.size := hvp
        (repeat (first | refine q_then ?_ | refine q_inN ?_))
        refine ⟨⟨r, m' + 1, ⟨k, tag, key, cl, al, sl, (e, lv, mo, d, p1, p2)⟩, seen, kids ++ [t], H', hc, ha, hss, hh'⟩, ?_, hk, hS, hR, hrr.2, ?_, ?_, hgd, ?_, ?_, ?_, ?_⟩
        ·show s.size - r < s.size - i;omega
        ·show 2 * (s.size - r) + 3 ≤ m' + 1;omega
        ·show m' + 1 ≤ f;omega
        ·show cl.length ≤ r;omega
        ·show al.length ≤ r;omega
        ·show sl.length ≤ r;omega
        ·show (kids ++ [t]).length ≤ r;rw [List.length_append];simp only [List.length_cons, List.length_nil];omega
       ·rintro ch a w hd ⟨p, e', rfl, rfl, hS⟩
        (repeat (first | refine then_panic ?_ | refine inBlock_panic ?_))
        exact ⟨hd, .inr ⟨_, rfl, p, e', hR.symm, rfl, hS⟩⟩
       ·replace hS := hS.drew
        generalize w.drew = w at hS
        refine an_take (i := 0) (k := 10) rfl hk (by kernel_rfl) (by kernel_rfl) (by kernel_rfl) (y_field hk (fT rfl) rfl) (fun _ => rfl) rfl (fun a hk => ?_) rfl
        refine an_take (i := 2) (k := 9) rfl hk (by kernel_rfl) (by kernel_rfl) (by kernel_rfl) (y_move hk rfl) (fun _ => rfl) rfl (fun a hk => ?_) rfl
        refine an_cut (fun a w => ∃ t r v u, vr0 = .ok t r ∧ Kn [] 88 a [(0, .pointer (some ⟨br, 0, none⟩)), (2, .pointer (some ⟨b2, 0, none⟩)), (5, .pointer (some ⟨b, 0, none⟩)), (6, mv), (79, .pointer (some ⟨b, 13, none⟩)), (81, .pointer (some ⟨br, 0, none⟩)), (80, (⟨ah, H.length, mh⟩ : Hd).v), (83, .int .i64 (H.length : Int)), (82, v), (84, u)] ∧ St B (nodL b k tag key cl al sl (e, lv, mo, d, p1, p2) hc ha hss ⟨ah, H.length, mh⟩ mv (seen.map keyP) (OwT 31 H (⟨ah, H.length, mh⟩ : Hd).v :: forR (snapTs kids) H :: pts b2 nd0 31 :: treeH (snapT t) v :: rdr br s r (op + 1) :: OwT 31 [((0, ⟨#[]⟩, ⟨#[]⟩, ⟨#[]⟩, ⟨none, 0, 0⟩, ⟨none, 0, 0⟩, ⟨none, 0, 0⟩, o0, ⟨none, 0, 0⟩) : NdH)] u :: L)) w) 5 #[true, true, true, true, true, true, false, false, false, false, false] ?_ (fun jABC => ?_)
        ·rintro a w ⟨t, r, v, u, hok, hk, hS⟩
         obtain ⟨hd, rfl, hS1⟩ := St.tree hS atx
         clear hS;have hS := hS1;clear hS1
         refine an_step (i := 6) (rs := []) (by kernel_rfl) ?_
         intro jx hjx
         simp only [List.mem_cons, List.not_mem_nil, or_false] at hjx
         subst hjx
         refine an_op (i := 6) rfl hk (g_appD (xs := H) (ys := [((0, ⟨#[]⟩, ⟨#[]⟩, ⟨#[]⟩, ⟨none, 0, 0⟩, ⟨none, 0, 0⟩, ⟨none, 0, 0⟩, o0, ⟨none, 0, 0⟩) : NdH)]) hk hS (fun w v85 hS a hk => ?_) (hT := eT rfl) (hTx := eT rfl) (hE := zT rfl) (hz := oT rfl) (hzs := rfl) (hby := bT rfl) (hbytes := by simp only [List.length_cons, List.length_nil];omega) (h63 := by simp only [List.length_cons, List.length_nil, maxLen];omega)) rfl
         obtain ⟨aov85, cv85, hshp, _⟩ := (OwT.rd (hS.rd (A := OwT 31 _ v85) atx)).shape;subst hshp
         have hlen : (H ++ [((0, ⟨#[]⟩, ⟨#[]⟩, ⟨#[]⟩, ⟨none, 0, 0⟩, ⟨none, 0, 0⟩, ⟨none, 0, 0⟩, o0, ⟨none, 0, 0⟩) : NdH)]).length = H.length + 1 := by rw [List.length_append];rfl
         rw [hlen] at hS hk
         have hset : (H ++ [((0, ⟨#[]⟩, ⟨#[]⟩, ⟨#[]⟩, ⟨none, 0, 0⟩, ⟨none, 0, 0⟩, ⟨none, 0, 0⟩, o0, ⟨none, 0, 0⟩) : NdH)]).set H.length hd = H ++ [hd] := by rw [List.set_append_right (h := Nat.le_refl _)];simp
         refine an_take (i := 9) (k := 3) rfl hk (by kernel_rfl) (by kernel_rfl) (by kernel_rfl) (y_field hk (fT rfl) rfl) (fun _ => rfl) rfl (fun a hk => ?_) rfl
         refine an_step (i := 7) (rs := [10]) (by kernel_rfl) ?_
         intro jx hjx
         simp only [List.mem_cons, List.not_mem_nil, or_false] at hjx
         rcases hjx with rfl | rfl
         ·refine an_op (i := 7) rfl hk (g_ixT (i := H.length) (xs := H ++ [((0, ⟨#[]⟩, ⟨#[]⟩, ⟨#[]⟩, ⟨none, 0, 0⟩, ⟨none, 0, 0⟩, ⟨none, 0, 0⟩, o0, ⟨none, 0, 0⟩) : NdH)]) hk (fun a hk => ?_) (ht := eT rfl) (hs := (by first | exact St.rdT hS (by assumption) | exact OwT.rd (hS.rd (A := OwT _ _ _) atx) | assumption)) (hi := by rw [hlen];omega) (hE := zT rfl)) rfl
          refine an_step (i := 8) (rs := [10]) (by kernel_rfl) ?_
          intro jx hjx
          simp only [List.mem_cons, List.not_mem_nil, or_false] at hjx
          rcases hjx with rfl | rfl
          ·refine an_opu (i := 8) rfl hk (g_stT (i := H.length) (xs := H ++ [((0, ⟨#[]⟩, ⟨#[]⟩, ⟨#[]⟩, ⟨none, 0, 0⟩, ⟨none, 0, 0⟩, ⟨none, 0, 0⟩, o0, ⟨none, 0, 0⟩) : NdH)]) (z := hd) hk hS (fun w hS a hk => ?_) (hsz := zT rfl) (hi := by rw [hlen];omega))
           refine an_step (i := 10) (rs := []) (by kernel_rfl) ?_
           intro jx hjx
           simp only [List.mem_cons, List.not_mem_nil, or_false] at hjx
           subst hjx
           refine an_opu (i := 10) rfl hk (g_store hk hS (fun w hS a hk => ?_) (hsz := zT rfl))
           rw [hset] at hS
           have hS1 := forR.snoc (hS.sub (.cons (A := treeR (snapT t) hd) atx (.cons (A := forR (snapTs kids) H) atx .refl)))
           refine an_end (by kernel_rfl) (QX.normal ⟨t, r, H ++ [hd], ⟨aov85, H.length + 1, cv85⟩, hok, hk.sub skx, ?_⟩)
           rw [snapTs_app]
           exact hS1.sub (.cons atx (.cons atx (.cons atx (.cons atx (.cons atx (.cons atx (.cons atx (.cons atx (.cons atx sbx)))))))))
          ·refine an_opu (i := 10) rfl hk (g_store hk hS (fun w hS a hk => ?_) (hsz := zT rfl))
           refine an_step (i := 8) (rs := []) (by kernel_rfl) ?_
           intro jx hjx
           simp only [List.mem_cons, List.not_mem_nil, or_false] at hjx
           subst hjx
           refine an_opu (i := 8) rfl hk (g_stT (i := H.length) (xs := H ++ [((0, ⟨#[]⟩, ⟨#[]⟩, ⟨#[]⟩, ⟨none, 0, 0⟩, ⟨none, 0, 0⟩, ⟨none, 0, 0⟩, o0, ⟨none, 0, 0⟩) : NdH)]) (z := hd) hk hS (fun w hS a hk => ?_) (hsz := zT rfl) (hi := by rw [hlen];omega))
           rw [hset] at hS
           have hS1 := forR.snoc (hS.sub (.cons (A := treeR (snapT t) hd) atx (.cons (A := forR (snapTs kids) H) atx .refl)))
           refine an_end (by kernel_rfl) (QX.normal ⟨t, r, H ++ [hd], ⟨aov85, H.length + 1, cv85⟩, hok, hk.sub skx, ?_⟩)
           rw [snapTs_app]
           exact hS1.sub (.cons atx (.cons atx (.cons atx (.cons atx (.cons atx (.cons atx (.cons atx (.cons atx (.cons atx sbx)))))))))
         ·refine an_opu (i := 10) rfl hk (g_store hk hS (fun w hS a hk => ?_) (hsz := zT rfl))
          refine an_step (i := 7) (rs := []) (by kernel_rfl) ?_
          intro jx hjx
          simp only [List.mem_cons, List.not_mem_nil, or_false] at hjx
          subst hjx
          refine an_op (i := 7) rfl hk (g_ixT (i := H.length) (xs := H ++ [((0, ⟨#[]⟩, ⟨#[]⟩, ⟨#[]⟩, ⟨none, 0, 0⟩, ⟨none, 0, 0⟩, ⟨none, 0, 0⟩, o0, ⟨none, 0, 0⟩) : NdH)]) hk (fun a hk => ?_) (ht := eT rfl) (hs := (by first | exact St.rdT hS (by assumption) | exact OwT.rd (hS.rd (A := OwT _ _ _) atx) | assumption)) (hi := by rw [hlen];omega) (hE := zT rfl)) rfl
          refine an_step (i := 8) (rs := []) (by kernel_rfl) ?_
          intro jx hjx
          simp only [List.mem_cons, List.not_mem_nil, or_false] at hjx
          subst hjx
          refine an_opu (i := 8) rfl hk (g_stT (i := H.length) (xs := H ++ [((0, ⟨#[]⟩, ⟨#[]⟩, ⟨#[]⟩, ⟨none, 0, 0⟩, ⟨none, 0, 0⟩, ⟨none, 0, 0⟩, o0, ⟨none, 0, 0⟩) : NdH)]) (z := hd) hk hS (fun w hS a hk => ?_) (hsz := zT rfl) (hi := by rw [hlen];omega))
          rw [hset] at hS
          have hS1 := forR.snoc (hS.sub (.cons (A := treeR (snapT t) hd) atx (.cons (A := forR (snapTs kids) H) atx .refl)))
          refine an_end (by kernel_rfl) (QX.normal ⟨t, r, H ++ [hd], ⟨aov85, H.length + 1, cv85⟩, hok, hk.sub skx, ?_⟩)
          rw [snapTs_app]
          exact hS1.sub (.cons atx (.cons atx (.cons atx (.cons atx (.cons atx (.cons atx (.cons atx (.cons atx (.cons atx sbx)))))))))
        refine an_cut (fun a w => ∃ t r v, vr0 = .ok t r ∧ Kn [] 88 a [(0, .pointer (some ⟨br, 0, none⟩)), (2, .pointer (some ⟨b2, 0, none⟩)), (5, .pointer (some ⟨b, 0, none⟩)), (6, mv), (79, .pointer (some ⟨b, 13, none⟩)), (81, .pointer (some ⟨br, 0, none⟩)), (80, (⟨ah, H.length, mh⟩ : Hd).v), (83, .int .i64 (H.length : Int)), (82, v)] ∧ St B (nodL b k tag key cl al sl (e, lv, mo, d, p1, p2) hc ha hss ⟨ah, H.length, mh⟩ mv (seen.map keyP) (OwT 31 H (⟨ah, H.length, mh⟩ : Hd).v :: forR (snapTs kids) H :: pts b2 nd0 31 :: treeH (snapT t) v :: rdr br s r (op + 1) :: L)) w) 6 #[true, true, true, true, true, false, false, false, false, false, false] ?_ (fun jAB => ?_)
        ·rintro a w ⟨t, r, v, hok, hk, hS⟩
         refine an_step (i := 5) (rs := []) (by kernel_rfl) ?_
         intro jx hjx
         simp only [List.mem_cons, List.not_mem_nil, or_false] at hjx
         subst hjx
         refine an_op (i := 5) rfl hk (g_bsT (xs := [((0, ⟨#[]⟩, ⟨#[]⟩, ⟨#[]⟩, ⟨none, 0, 0⟩, ⟨none, 0, 0⟩, ⟨none, 0, 0⟩, o0, ⟨none, 0, 0⟩) : NdH)]) (m := 0) hk hS (fun w u hS a hk => ?_) (hT := eT rfl) (hE := zT rfl) (hz := oT rfl)) rfl
         exact jABC a _ ⟨t, r, v, u, hok, hk.sub skx, hS.sub (.cons atx (.cons atx (.cons atx (.cons atx (.cons atx (.cons atx (.cons atx (.cons atx (.cons atx (.cons atx (.cons atx sbx)))))))))))⟩
        refine an_cut (fun a w => ∃ u, Kn [] 88 a [(0, .pointer (some ⟨br, 0, none⟩)), (2, .pointer (some ⟨b2, 0, none⟩)), (5, .pointer (some ⟨b, 0, none⟩)), (6, mv), (79, .pointer (some ⟨b, 13, none⟩)), (81, .pointer (some ⟨br, 0, none⟩)), (80, (⟨ah, H.length, mh⟩ : Hd).v), (83, .int .i64 (H.length : Int)), (84, u)] ∧ St B (nodL b k tag key cl al sl (e, lv, mo, d, p1, p2) hc ha hss ⟨ah, H.length, mh⟩ mv (seen.map keyP) (OwT 31 H (⟨ah, H.length, mh⟩ : Hd).v :: forR (snapTs kids) H :: pts b2 nd0 31 :: rdr br s q (op + 1) :: OwT 31 [((0, ⟨#[]⟩, ⟨#[]⟩, ⟨#[]⟩, ⟨none, 0, 0⟩, ⟨none, 0, 0⟩, ⟨none, 0, 0⟩, o0, ⟨none, 0, 0⟩) : NdH)] u :: L)) w) 6 #[true, true, true, false, true, true, false, false, false, false, false] ?_ (fun jAC => ?_)
        ·rintro a w ⟨u, hk, hS⟩
         refine an_step (i := 3) (rs := []) (by kernel_rfl) ?_
         intro jx hjx
         simp only [List.mem_cons, List.not_mem_nil, or_false] at hjx
         subst hjx
         refine an_opP (i := 3) rfl hk ((g_callP hk (hf := by kernel_rfl) (hc := ih (m' + 1) (by omega) br s q (op + 1) B _ _ hs hle (by omega) (by omega) (hS.sub (.cons atx .refl)))).mono (fun v w h => ?_) (fun ch w h => ?_)) rfl
         ·obtain ⟨t, r, hok, hS⟩ := h
          rw [hview] at hok
          intro a hk
          exact jABC a _ ⟨t, r, v, u, hok, hk.sub skx, hS.sub (.cons atx (.cons atx (.cons atx (.cons atx (.cons atx (.cons atx (.cons atx (.cons atx (.cons atx (.cons atx (.cons atx sbx)))))))))))⟩
         ·obtain ⟨p, e', hno, rfl, hS⟩ := h
          rw [hview] at hno
          exact QX.panic hk ⟨p, e', hno, rfl, hS.sub sbx⟩
        refine an_cut (fun a w => ∃ t r v u, vr0 = .ok t r ∧ Kn [] 88 a [(0, .pointer (some ⟨br, 0, none⟩)), (2, .pointer (some ⟨b2, 0, none⟩)), (5, .pointer (some ⟨b, 0, none⟩)), (6, mv), (79, .pointer (some ⟨b, 13, none⟩)), (81, .pointer (some ⟨br, 0, none⟩)), (82, v), (84, u)] ∧ St B (nodL b k tag key cl al sl (e, lv, mo, d, p1, p2) hc ha hss ⟨ah, H.length, mh⟩ mv (seen.map keyP) (OwT 31 H (⟨ah, H.length, mh⟩ : Hd).v :: forR (snapTs kids) H :: pts b2 nd0 31 :: treeH (snapT t) v :: rdr br s r (op + 1) :: OwT 31 [((0, ⟨#[]⟩, ⟨#[]⟩, ⟨#[]⟩, ⟨none, 0, 0⟩, ⟨none, 0, 0⟩, ⟨none, 0, 0⟩, o0, ⟨none, 0, 0⟩) : NdH)] u :: L)) w) 7 #[true, false, true, true, false, true, false, false, false, false, false] ?_ (fun jBC => ?_)
        ·rintro a w ⟨t, r, v, u, hok, hk, hS⟩
         refine an_step (i := 1) (rs := []) (by kernel_rfl) ?_
         intro jx hjx
         simp only [List.mem_cons, List.not_mem_nil, or_false] at hjx
         subst hjx
         refine an_op (i := 1) rfl hk (g_own1 hk hS (fun a hk => ?_) (aT rfl)) rfl
         refine an_take (i := 4) (k := 5) rfl hk (by kernel_rfl) (by kernel_rfl) (by kernel_rfl) (y_len hk (eT rfl) rfl) ab_len rfl (fun a hk => ?_) rfl
         exact jABC a _ ⟨t, r, v, u, hok, hk.sub skx, hS.sub (.cons atx (.cons atx (.cons atx (.cons atx (.cons atx (.cons atx (.cons atx (.cons atx (.cons atx (.cons atx (.cons atx sbx)))))))))))⟩
        refine an_cut (fun a w => Kn [] 88 a [(0, .pointer (some ⟨br, 0, none⟩)), (2, .pointer (some ⟨b2, 0, none⟩)), (5, .pointer (some ⟨b, 0, none⟩)), (6, mv), (79, .pointer (some ⟨b, 13, none⟩)), (81, .pointer (some ⟨br, 0, none⟩)), (80, (⟨ah, H.length, mh⟩ : Hd).v), (83, .int .i64 (H.length : Int))] ∧ St B (nodL b k tag key cl al sl (e, lv, mo, d, p1, p2) hc ha hss ⟨ah, H.length, mh⟩ mv (seen.map keyP) (OwT 31 H (⟨ah, H.length, mh⟩ : Hd).v :: forR (snapTs kids) H :: pts b2 nd0 31 :: rdr br s q (op + 1) :: L)) w) 7 #[true, true, true, false, true, false, false, false, false, false, false] ?_ (fun jA => ?_)
        ·rintro a w ⟨hk, hS⟩
         refine an_step (i := 3) (rs := [5]) (by kernel_rfl) ?_
         intro jx hjx
         simp only [List.mem_cons, List.not_mem_nil, or_false] at hjx
         rcases hjx with rfl | rfl
         ·refine an_opP (i := 3) rfl hk ((g_callP hk (hf := by kernel_rfl) (hc := ih (m' + 1) (by omega) br s q (op + 1) B _ _ hs hle (by omega) (by omega) (hS.sub (.cons atx .refl)))).mono (fun v w h => ?_) (fun ch w h => ?_)) rfl
          ·obtain ⟨t, r, hok, hS⟩ := h
           rw [hview] at hok
           intro a hk
           exact jAB a _ ⟨t, r, v, hok, hk.sub skx, hS.sub (.cons atx (.cons atx (.cons atx (.cons atx (.cons atx (.cons atx (.cons atx (.cons atx (.cons atx (.cons atx sbx))))))))))⟩
          ·obtain ⟨p, e', hno, rfl, hS⟩ := h
           rw [hview] at hno
           exact QX.panic hk ⟨p, e', hno, rfl, hS.sub sbx⟩
         ·refine an_op (i := 5) rfl hk (g_bsT (xs := [((0, ⟨#[]⟩, ⟨#[]⟩, ⟨#[]⟩, ⟨none, 0, 0⟩, ⟨none, 0, 0⟩, ⟨none, 0, 0⟩, o0, ⟨none, 0, 0⟩) : NdH)]) (m := 0) hk hS (fun w u hS a hk => ?_) (hT := eT rfl) (hE := zT rfl) (hz := oT rfl)) rfl
          exact jAC a _ ⟨u, hk.sub skx, hS.sub (.cons atx (.cons atx (.cons atx (.cons atx (.cons atx (.cons atx (.cons atx (.cons atx (.cons atx (.cons atx sbx))))))))))⟩
        refine an_cut (fun a w => ∃ t r v, vr0 = .ok t r ∧ Kn [] 88 a [(0, .pointer (some ⟨br, 0, none⟩)), (2, .pointer (some ⟨b2, 0, none⟩)), (5, .pointer (some ⟨b, 0, none⟩)), (6, mv), (79, .pointer (some ⟨b, 13, none⟩)), (81, .pointer (some ⟨br, 0, none⟩)), (82, v)] ∧ St B (nodL b k tag key cl al sl (e, lv, mo, d, p1, p2) hc ha hss ⟨ah, H.length, mh⟩ mv (seen.map keyP) (OwT 31 H (⟨ah, H.length, mh⟩ : Hd).v :: forR (snapTs kids) H :: pts b2 nd0 31 :: treeH (snapT t) v :: rdr br s r (op + 1) :: L)) w) 8 #[true, false, true, true, false, false, false, false, false, false, false] ?_ (fun jB => ?_)
        ·rintro a w ⟨t, r, v, hok, hk, hS⟩
         refine an_step (i := 1) (rs := [5]) (by kernel_rfl) ?_
         intro jx hjx
         simp only [List.mem_cons, List.not_mem_nil, or_false] at hjx
         rcases hjx with rfl | rfl
         ·refine an_op (i := 1) rfl hk (g_own1 hk hS (fun a hk => ?_) (aT rfl)) rfl
          refine an_take (i := 4) (k := 6) rfl hk (by kernel_rfl) (by kernel_rfl) (by kernel_rfl) (y_len hk (eT rfl) rfl) ab_len rfl (fun a hk => ?_) rfl
          exact jAB a _ ⟨t, r, v, hok, hk.sub skx, hS.sub (.cons atx (.cons atx (.cons atx (.cons atx (.cons atx (.cons atx (.cons atx (.cons atx (.cons atx (.cons atx sbx))))))))))⟩
         ·refine an_op (i := 5) rfl hk (g_bsT (xs := [((0, ⟨#[]⟩, ⟨#[]⟩, ⟨#[]⟩, ⟨none, 0, 0⟩, ⟨none, 0, 0⟩, ⟨none, 0, 0⟩, o0, ⟨none, 0, 0⟩) : NdH)]) (m := 0) hk hS (fun w u hS a hk => ?_) (hT := eT rfl) (hE := zT rfl) (hz := oT rfl)) rfl
          exact jBC a _ ⟨t, r, v, u, hok, hk.sub skx, hS.sub (.cons atx (.cons atx (.cons atx (.cons atx (.cons atx (.cons atx (.cons atx (.cons atx (.cons atx (.cons atx (.cons atx sbx)))))))))))⟩
        refine an_cut (fun a w => ∃ u, Kn [] 88 a [(0, .pointer (some ⟨br, 0, none⟩)), (2, .pointer (some ⟨b2, 0, none⟩)), (5, .pointer (some ⟨b, 0, none⟩)), (6, mv), (79, .pointer (some ⟨b, 13, none⟩)), (81, .pointer (some ⟨br, 0, none⟩)), (84, u)] ∧ St B (nodL b k tag key cl al sl (e, lv, mo, d, p1, p2) hc ha hss ⟨ah, H.length, mh⟩ mv (seen.map keyP) (OwT 31 H (⟨ah, H.length, mh⟩ : Hd).v :: forR (snapTs kids) H :: pts b2 nd0 31 :: rdr br s q (op + 1) :: OwT 31 [((0, ⟨#[]⟩, ⟨#[]⟩, ⟨#[]⟩, ⟨none, 0, 0⟩, ⟨none, 0, 0⟩, ⟨none, 0, 0⟩, o0, ⟨none, 0, 0⟩) : NdH)] u :: L)) w) 8 #[true, false, true, false, false, true, false, false, false, false, false] ?_ (fun jC => ?_)
        ·rintro a w ⟨u, hk, hS⟩
         refine an_step (i := 1) (rs := [3]) (by kernel_rfl) ?_
         intro jx hjx
         simp only [List.mem_cons, List.not_mem_nil, or_false] at hjx
         rcases hjx with rfl | rfl
         ·refine an_op (i := 1) rfl hk (g_own1 hk hS (fun a hk => ?_) (aT rfl)) rfl
          refine an_take (i := 4) (k := 6) rfl hk (by kernel_rfl) (by kernel_rfl) (by kernel_rfl) (y_len hk (eT rfl) rfl) ab_len rfl (fun a hk => ?_) rfl
          exact jAC a _ ⟨u, hk.sub skx, hS.sub (.cons atx (.cons atx (.cons atx (.cons atx (.cons atx (.cons atx (.cons atx (.cons atx (.cons atx (.cons atx sbx))))))))))⟩
         ·refine an_opP (i := 3) rfl hk ((g_callP hk (hf := by kernel_rfl) (hc := ih (m' + 1) (by omega) br s q (op + 1) B _ _ hs hle (by omega) (by omega) (hS.sub (.cons atx .refl)))).mono (fun v w h => ?_) (fun ch w h => ?_)) rfl
          ·obtain ⟨t, r, hok, hS⟩ := h
           rw [hview] at hok
           intro a hk
           exact jBC a _ ⟨t, r, v, u, hok, hk.sub skx, hS.sub (.cons atx (.cons atx (.cons atx (.cons atx (.cons atx (.cons atx (.cons atx (.cons atx (.cons atx (.cons atx (.cons atx sbx)))))))))))⟩
          ·obtain ⟨p, e', hno, rfl, hS⟩ := h
           rw [hview] at hno
           exact QX.panic hk ⟨p, e', hno, rfl, hS.sub sbx⟩
        refine an_step (i := 1) (rs := [3, 5]) (by kernel_rfl) ?_
        intro jx hjx
        simp only [List.mem_cons, List.not_mem_nil, or_false] at hjx
        rcases hjx with rfl | rfl | rfl
        ·refine an_op (i := 1) rfl hk (g_own1 hk hS (fun a hk => ?_) (aT rfl)) rfl
         refine an_take (i := 4) (k := 7) rfl hk (by kernel_rfl) (by kernel_rfl) (by kernel_rfl) (y_len hk (eT rfl) rfl) ab_len rfl (fun a hk => ?_) rfl
         exact jA a _ ⟨hk.sub skx, hS.sub (.cons atx (.cons atx (.cons atx (.cons atx (.cons atx (.cons atx (.cons atx (.cons atx (.cons atx sbx)))))))))⟩
        ·refine an_opP (i := 3) rfl hk ((g_callP hk (hf := by kernel_rfl) (hc := ih (m' + 1) (by omega) br s q (op + 1) B _ _ hs hle (by omega) (by omega) (hS.sub (.cons atx .refl)))).mono (fun v w h => ?_) (fun ch w h => ?_)) rfl
         ·obtain ⟨t, r, hok, hS⟩ := h
          rw [hview] at hok
          intro a hk
          exact jB a _ ⟨t, r, v, hok, hk.sub skx, hS.sub (.cons atx (.cons atx (.cons atx (.cons atx (.cons atx (.cons atx (.cons atx (.cons atx (.cons atx (.cons atx sbx))))))))))⟩
         ·obtain ⟨p, e', hno, rfl, hS⟩ := h
          rw [hview] at hno
          exact QX.panic hk ⟨p, e', hno, rfl, hS.sub sbx⟩
        ·refine an_op (i := 5) rfl hk (g_bsT (xs := [((0, ⟨#[]⟩, ⟨#[]⟩, ⟨#[]⟩, ⟨none, 0, 0⟩, ⟨none, 0, 0⟩, ⟨none, 0, 0⟩, o0, ⟨none, 0, 0⟩) : NdH)]) (m := 0) hk hS (fun w u hS a hk => ?_) (hT := eT rfl) (hE := zT rfl) (hz := oT rfl)) rfl
         exact jC a _ ⟨u, hk.sub skx, hS.sub (.cons atx (.cons atx (.cons atx (.cons atx (.cons atx (.cons atx (.cons atx (.cons atx (.cons atx (.cons atx sbx))))))))))⟩
      ·refine an_region (fun a w => ∃ t r H' hh', vr0 = .ok t r ∧ Kn [] 88 a [(0, .pointer (some ⟨br, 0, none⟩)), (2, .pointer (some ⟨b2, 0, none⟩)), (5, .pointer (some ⟨b, 0, none⟩)), (6, mv)] ∧ St B (nodL b k tag key cl al sl (e, lv, mo, d, p1, p2) hc ha hss hh' mv (seen.map keyP) (OwT 31 H' hh'.v :: forR (snapTs (kids ++ [t])) H' :: pts b2 nd0 31 :: rdr br s r (op + 1) :: L)) w) (fun ch w => ∃ p e, vr0 = .no p e ∧ ch = thrown p e ∧ St B L w) (hk.sub (l' := [(0, .pointer (some ⟨br, 0, none⟩)), (2, .pointer (some ⟨b2, 0, none⟩)), (5, .pointer (some ⟨b, 0, none⟩)), (6, mv)]) skx) mixed ?_ ?_ ?_
       ·rintro a w ⟨t, r, H', hh', rfl, hk, hS⟩
        have hvp := (view_pos s (m' + 1)).1 _ _ _ _ hvr
        have hrr : i < r ∧ r ≤ s.size := hvp
        (repeat (first | refine q_then ?_ | refine q_inN ?_))
        refine ⟨⟨r, m' + 1, ⟨k, tag, key, cl, al, sl, (e, lv, mo, d, p1, p2)⟩, seen, kids ++ [t], H', hc, ha, hss, hh'⟩, ?_, hk, hS, hR, hrr.2, ?_, ?_, hgd, ?_, ?_, ?_, ?_⟩
        ·show s.size - r < s.size - i;omega
        ·show 2 * (s.size - r) + 3 ≤ m' + 1;omega
        ·show m' + 1 ≤ f;omega
        ·show cl.length ≤ r;omega
        ·show al.length ≤ r;omega
        ·show sl.length ≤ r;omega
        ·show (kids ++ [t]).length ≤ r;rw [List.length_append];simp only [List.length_cons, List.length_nil];omega
       ·rintro ch a w hd ⟨p, e', rfl, rfl, hS⟩
        (repeat (first | refine then_panic ?_ | refine inBlock_panic ?_))
        exact ⟨hd, .inr ⟨_, rfl, p, e', hR.symm, rfl, hS⟩⟩
       ·replace hS := hS.drew
        generalize w.drew = w at hS
        refine an_take (i := 0) (k := 10) rfl hk (by kernel_rfl) (by kernel_rfl) (by kernel_rfl) (y_field hk (fT rfl) rfl) (fun _ => rfl) rfl (fun a hk => ?_) rfl
        refine an_take (i := 2) (k := 9) rfl hk (by kernel_rfl) (by kernel_rfl) (by kernel_rfl) (y_move hk rfl) (fun _ => rfl) rfl (fun a hk => ?_) rfl
        refine an_cut (fun a w => ∃ t r v u, vr0 = .ok t r ∧ Kn [] 88 a [(0, .pointer (some ⟨br, 0, none⟩)), (2, .pointer (some ⟨b2, 0, none⟩)), (5, .pointer (some ⟨b, 0, none⟩)), (6, mv), (79, .pointer (some ⟨b, 13, none⟩)), (81, .pointer (some ⟨br, 0, none⟩)), (80, (⟨ah, H.length, mh⟩ : Hd).v), (83, .int .i64 (H.length : Int)), (82, v), (84, u)] ∧ St B (nodL b k tag key cl al sl (e, lv, mo, d, p1, p2) hc ha hss ⟨ah, H.length, mh⟩ mv (seen.map keyP) (OwT 31 H (⟨ah, H.length, mh⟩ : Hd).v :: forR (snapTs kids) H :: pts b2 nd0 31 :: treeH (snapT t) v :: rdr br s r (op + 1) :: OwT 31 [((0, ⟨#[]⟩, ⟨#[]⟩, ⟨#[]⟩, ⟨none, 0, 0⟩, ⟨none, 0, 0⟩, ⟨none, 0, 0⟩, o0, ⟨none, 0, 0⟩) : NdH)] u :: L)) w) 5 #[true, true, true, true, true, true, false, false, false, false, false] ?_ (fun jABC => ?_)
        ·rintro a w ⟨t, r, v, u, hok, hk, hS⟩
         obtain ⟨hd, rfl, hS1⟩ := St.tree hS atx
         clear hS;have hS := hS1;clear hS1
         refine an_step (i := 6) (rs := []) (by kernel_rfl) ?_
         intro jx hjx
         simp only [List.mem_cons, List.not_mem_nil, or_false] at hjx
         subst hjx
         refine an_op (i := 6) rfl hk (g_appD (xs := H) (ys := [((0, ⟨#[]⟩, ⟨#[]⟩, ⟨#[]⟩, ⟨none, 0, 0⟩, ⟨none, 0, 0⟩, ⟨none, 0, 0⟩, o0, ⟨none, 0, 0⟩) : NdH)]) hk hS (fun w v85 hS a hk => ?_) (hT := eT rfl) (hTx := eT rfl) (hE := zT rfl) (hz := oT rfl) (hzs := rfl) (hby := bT rfl) (hbytes := by simp only [List.length_cons, List.length_nil];omega) (h63 := by simp only [List.length_cons, List.length_nil, maxLen];omega)) rfl
         obtain ⟨aov85, cv85, hshp, _⟩ := (OwT.rd (hS.rd (A := OwT 31 _ v85) atx)).shape;subst hshp
         have hlen : (H ++ [((0, ⟨#[]⟩, ⟨#[]⟩, ⟨#[]⟩, ⟨none, 0, 0⟩, ⟨none, 0, 0⟩, ⟨none, 0, 0⟩, o0, ⟨none, 0, 0⟩) : NdH)]).length = H.length + 1 := by rw [List.length_append];rfl
         rw [hlen] at hS hk
         have hset : (H ++ [((0, ⟨#[]⟩, ⟨#[]⟩, ⟨#[]⟩, ⟨none, 0, 0⟩, ⟨none, 0, 0⟩, ⟨none, 0, 0⟩, o0, ⟨none, 0, 0⟩) : NdH)]).set H.length hd = H ++ [hd] := by rw [List.set_append_right (h := Nat.le_refl _)];simp
         refine an_take (i := 9) (k := 3) rfl hk (by kernel_rfl) (by kernel_rfl) (by kernel_rfl) (y_field hk (fT rfl) rfl) (fun _ => rfl) rfl (fun a hk => ?_) rfl
         refine an_step (i := 7) (rs := [10]) (by kernel_rfl) ?_
         intro jx hjx
         simp only [List.mem_cons, List.not_mem_nil, or_false] at hjx
         rcases hjx with rfl | rfl
         ·refine an_op (i := 7) rfl hk (g_ixT (i := H.length) (xs := H ++ [((0, ⟨#[]⟩, ⟨#[]⟩, ⟨#[]⟩, ⟨none, 0, 0⟩, ⟨none, 0, 0⟩, ⟨none, 0, 0⟩, o0, ⟨none, 0, 0⟩) : NdH)]) hk (fun a hk => ?_) (ht := eT rfl) (hs := (by first | exact St.rdT hS (by assumption) | exact OwT.rd (hS.rd (A := OwT _ _ _) atx) | assumption)) (hi := by rw [hlen];omega) (hE := zT rfl)) rfl
          refine an_step (i := 8) (rs := [10]) (by kernel_rfl) ?_
          intro jx hjx
          simp only [List.mem_cons, List.not_mem_nil, or_false] at hjx
          rcases hjx with rfl | rfl
          ·refine an_opu (i := 8) rfl hk (g_stT (i := H.length) (xs := H ++ [((0, ⟨#[]⟩, ⟨#[]⟩, ⟨#[]⟩, ⟨none, 0, 0⟩, ⟨none, 0, 0⟩, ⟨none, 0, 0⟩, o0, ⟨none, 0, 0⟩) : NdH)]) (z := hd) hk hS (fun w hS a hk => ?_) (hsz := zT rfl) (hi := by rw [hlen];omega))
           refine an_step (i := 10) (rs := []) (by kernel_rfl) ?_
           intro jx hjx
           simp only [List.mem_cons, List.not_mem_nil, or_false] at hjx
           subst hjx
           refine an_opu (i := 10) rfl hk (g_store hk hS (fun w hS a hk => ?_) (hsz := zT rfl))
           rw [hset] at hS
           have hS1 := forR.snoc (hS.sub (.cons (A := treeR (snapT t) hd) atx (.cons (A := forR (snapTs kids) H) atx .refl)))
           refine an_end (by kernel_rfl) (QX.normal ⟨t, r, H ++ [hd], ⟨aov85, H.length + 1, cv85⟩, hok, hk.sub skx, ?_⟩)
           rw [snapTs_app]
           exact hS1.sub (.cons atx (.cons atx (.cons atx (.cons atx (.cons atx (.cons atx (.cons atx (.cons atx (.cons atx sbx)))))))))
          ·refine an_opu (i := 10) rfl hk (g_store hk hS (fun w hS a hk => ?_) (hsz := zT rfl))
           refine an_step (i := 8) (rs := []) (by kernel_rfl) ?_
           intro jx hjx
           simp only [List.mem_cons, List.not_mem_nil, or_false] at hjx
           subst hjx
           refine an_opu (i := 8) rfl hk (g_stT (i := H.length) (xs := H ++ [((0, ⟨#[]⟩, ⟨#[]⟩, ⟨#[]⟩, ⟨none, 0, 0⟩, ⟨none, 0, 0⟩, ⟨none, 0, 0⟩, o0, ⟨none, 0, 0⟩) : NdH)]) (z := hd) hk hS (fun w hS a hk => ?_) (hsz := zT rfl) (hi := by rw [hlen];omega))
           rw [hset] at hS
           have hS1 := forR.snoc (hS.sub (.cons (A := treeR (snapT t) hd) atx (.cons (A := forR (snapTs kids) H) atx .refl)))
           refine an_end (by kernel_rfl) (QX.normal ⟨t, r, H ++ [hd], ⟨aov85, H.length + 1, cv85⟩, hok, hk.sub skx, ?_⟩)
           rw [snapTs_app]
           exact hS1.sub (.cons atx (.cons atx (.cons atx (.cons atx (.cons atx (.cons atx (.cons atx (.cons atx (.cons atx sbx)))))))))
         ·refine an_opu (i := 10) rfl hk (g_store hk hS (fun w hS a hk => ?_) (hsz := zT rfl))
          refine an_step (i := 7) (rs := []) (by kernel_rfl) ?_
          intro jx hjx
          simp only [List.mem_cons, List.not_mem_nil, or_false] at hjx
          subst hjx
          refine an_op (i := 7) rfl hk (g_ixT (i := H.length) (xs := H ++ [((0, ⟨#[]⟩, ⟨#[]⟩, ⟨#[]⟩, ⟨none, 0, 0⟩, ⟨none, 0, 0⟩, ⟨none, 0, 0⟩, o0, ⟨none, 0, 0⟩) : NdH)]) hk (fun a hk => ?_) (ht := eT rfl) (hs := (by first | exact St.rdT hS (by assumption) | exact OwT.rd (hS.rd (A := OwT _ _ _) atx) | assumption)) (hi := by rw [hlen];omega) (hE := zT rfl)) rfl
          refine an_step (i := 8) (rs := []) (by kernel_rfl) ?_
          intro jx hjx
          simp only [List.mem_cons, List.not_mem_nil, or_false] at hjx
          subst hjx
          refine an_opu (i := 8) rfl hk (g_stT (i := H.length) (xs := H ++ [((0, ⟨#[]⟩, ⟨#[]⟩, ⟨#[]⟩, ⟨none, 0, 0⟩, ⟨none, 0, 0⟩, ⟨none, 0, 0⟩, o0, ⟨none, 0, 0⟩) : NdH)]) (z := hd) hk hS (fun w hS a hk => ?_) (hsz := zT rfl) (hi := by rw [hlen];omega))
          rw [hset] at hS
          have hS1 := forR.snoc (hS.sub (.cons (A := treeR (snapT t) hd) atx (.cons (A := forR (snapTs kids) H) atx .refl)))
          refine an_end (by kernel_rfl) (QX.normal ⟨t, r, H ++ [hd], ⟨aov85, H.length + 1, cv85⟩, hok, hk.sub skx, ?_⟩)
          rw [snapTs_app]
          exact hS1.sub (.cons atx (.cons atx (.cons atx (.cons atx (.cons atx (.cons atx (.cons atx (.cons atx (.cons atx sbx)))))))))
        refine an_cut (fun a w => ∃ t r v, vr0 = .ok t r ∧ Kn [] 88 a [(0, .pointer (some ⟨br, 0, none⟩)), (2, .pointer (some ⟨b2, 0, none⟩)), (5, .pointer (some ⟨b, 0, none⟩)), (6, mv), (79, .pointer (some ⟨b, 13, none⟩)), (81, .pointer (some ⟨br, 0, none⟩)), (80, (⟨ah, H.length, mh⟩ : Hd).v), (83, .int .i64 (H.length : Int)), (82, v)] ∧ St B (nodL b k tag key cl al sl (e, lv, mo, d, p1, p2) hc ha hss ⟨ah, H.length, mh⟩ mv (seen.map keyP) (OwT 31 H (⟨ah, H.length, mh⟩ : Hd).v :: forR (snapTs kids) H :: pts b2 nd0 31 :: treeH (snapT t) v :: rdr br s r (op + 1) :: L)) w) 6 #[true, true, true, true, true, false, false, false, false, false, false] ?_ (fun jAB => ?_)
        ·rintro a w ⟨t, r, v, hok, hk, hS⟩
         refine an_step (i := 5) (rs := []) (by kernel_rfl) ?_
         intro jx hjx
         simp only [List.mem_cons, List.not_mem_nil, or_false] at hjx
         subst hjx
         refine an_op (i := 5) rfl hk (g_bsT (xs := [((0, ⟨#[]⟩, ⟨#[]⟩, ⟨#[]⟩, ⟨none, 0, 0⟩, ⟨none, 0, 0⟩, ⟨none, 0, 0⟩, o0, ⟨none, 0, 0⟩) : NdH)]) (m := 0) hk hS (fun w u hS a hk => ?_) (hT := eT rfl) (hE := zT rfl) (hz := oT rfl)) rfl
         exact jABC a _ ⟨t, r, v, u, hok, hk.sub skx, hS.sub (.cons atx (.cons atx (.cons atx (.cons atx (.cons atx (.cons atx (.cons atx (.cons atx (.cons atx (.cons atx (.cons atx sbx)))))))))))⟩
        refine an_cut (fun a w => ∃ u, Kn [] 88 a [(0, .pointer (some ⟨br, 0, none⟩)), (2, .pointer (some ⟨b2, 0, none⟩)), (5, .pointer (some ⟨b, 0, none⟩)), (6, mv), (79, .pointer (some ⟨b, 13, none⟩)), (81, .pointer (some ⟨br, 0, none⟩)), (80, (⟨ah, H.length, mh⟩ : Hd).v), (83, .int .i64 (H.length : Int)), (84, u)] ∧ St B (nodL b k tag key cl al sl (e, lv, mo, d, p1, p2) hc ha hss ⟨ah, H.length, mh⟩ mv (seen.map keyP) (OwT 31 H (⟨ah, H.length, mh⟩ : Hd).v :: forR (snapTs kids) H :: pts b2 nd0 31 :: rdr br s q (op + 1) :: OwT 31 [((0, ⟨#[]⟩, ⟨#[]⟩, ⟨#[]⟩, ⟨none, 0, 0⟩, ⟨none, 0, 0⟩, ⟨none, 0, 0⟩, o0, ⟨none, 0, 0⟩) : NdH)] u :: L)) w) 6 #[true, true, true, false, true, true, false, false, false, false, false] ?_ (fun jAC => ?_)
        ·rintro a w ⟨u, hk, hS⟩
         refine an_step (i := 3) (rs := []) (by kernel_rfl) ?_
         intro jx hjx
         simp only [List.mem_cons, List.not_mem_nil, or_false] at hjx
         subst hjx
         refine an_opP (i := 3) rfl hk ((g_callP hk (hf := by kernel_rfl) (hc := ih (m' + 1) (by omega) br s q (op + 1) B _ _ hs hle (by omega) (by omega) (hS.sub (.cons atx .refl)))).mono (fun v w h => ?_) (fun ch w h => ?_)) rfl
         ·obtain ⟨t, r, hok, hS⟩ := h
          rw [hview] at hok
          intro a hk
          exact jABC a _ ⟨t, r, v, u, hok, hk.sub skx, hS.sub (.cons atx (.cons atx (.cons atx (.cons atx (.cons atx (.cons atx (.cons atx (.cons atx (.cons atx (.cons atx (.cons atx sbx)))))))))))⟩
         ·obtain ⟨p, e', hno, rfl, hS⟩ := h
          rw [hview] at hno
          exact QX.panic hk ⟨p, e', hno, rfl, hS.sub sbx⟩
        refine an_cut (fun a w => ∃ t r v u, vr0 = .ok t r ∧ Kn [] 88 a [(0, .pointer (some ⟨br, 0, none⟩)), (2, .pointer (some ⟨b2, 0, none⟩)), (5, .pointer (some ⟨b, 0, none⟩)), (6, mv), (79, .pointer (some ⟨b, 13, none⟩)), (81, .pointer (some ⟨br, 0, none⟩)), (82, v), (84, u)] ∧ St B (nodL b k tag key cl al sl (e, lv, mo, d, p1, p2) hc ha hss ⟨ah, H.length, mh⟩ mv (seen.map keyP) (OwT 31 H (⟨ah, H.length, mh⟩ : Hd).v :: forR (snapTs kids) H :: pts b2 nd0 31 :: treeH (snapT t) v :: rdr br s r (op + 1) :: OwT 31 [((0, ⟨#[]⟩, ⟨#[]⟩, ⟨#[]⟩, ⟨none, 0, 0⟩, ⟨none, 0, 0⟩, ⟨none, 0, 0⟩, o0, ⟨none, 0, 0⟩) : NdH)] u :: L)) w) 7 #[true, false, true, true, false, true, false, false, false, false, false] ?_ (fun jBC => ?_)
        ·rintro a w ⟨t, r, v, u, hok, hk, hS⟩
         refine an_step (i := 1) (rs := []) (by kernel_rfl) ?_
         intro jx hjx
         simp only [List.mem_cons, List.not_mem_nil, or_false] at hjx
         subst hjx
         refine an_op (i := 1) rfl hk (g_own1 hk hS (fun a hk => ?_) (aT rfl)) rfl
         refine an_take (i := 4) (k := 5) rfl hk (by kernel_rfl) (by kernel_rfl) (by kernel_rfl) (y_len hk (eT rfl) rfl) ab_len rfl (fun a hk => ?_) rfl
         exact jABC a _ ⟨t, r, v, u, hok, hk.sub skx, hS.sub (.cons atx (.cons atx (.cons atx (.cons atx (.cons atx (.cons atx (.cons atx (.cons atx (.cons atx (.cons atx (.cons atx sbx)))))))))))⟩
        refine an_cut (fun a w => Kn [] 88 a [(0, .pointer (some ⟨br, 0, none⟩)), (2, .pointer (some ⟨b2, 0, none⟩)), (5, .pointer (some ⟨b, 0, none⟩)), (6, mv), (79, .pointer (some ⟨b, 13, none⟩)), (81, .pointer (some ⟨br, 0, none⟩)), (80, (⟨ah, H.length, mh⟩ : Hd).v), (83, .int .i64 (H.length : Int))] ∧ St B (nodL b k tag key cl al sl (e, lv, mo, d, p1, p2) hc ha hss ⟨ah, H.length, mh⟩ mv (seen.map keyP) (OwT 31 H (⟨ah, H.length, mh⟩ : Hd).v :: forR (snapTs kids) H :: pts b2 nd0 31 :: rdr br s q (op + 1) :: L)) w) 7 #[true, true, true, false, true, false, false, false, false, false, false] ?_ (fun jA => ?_)
        ·rintro a w ⟨hk, hS⟩
         refine an_step (i := 3) (rs := [5]) (by kernel_rfl) ?_
         intro jx hjx
         simp only [List.mem_cons, List.not_mem_nil, or_false] at hjx
         rcases hjx with rfl | rfl
         ·refine an_opP (i := 3) rfl hk ((g_callP hk (hf := by kernel_rfl) (hc := ih (m' + 1) (by omega) br s q (op + 1) B _ _ hs hle (by omega) (by omega) (hS.sub (.cons atx .refl)))).mono (fun v w h => ?_) (fun ch w h => ?_)) rfl
          ·obtain ⟨t, r, hok, hS⟩ := h
           rw [hview] at hok
           intro a hk
           exact jAB a _ ⟨t, r, v, hok, hk.sub skx, hS.sub (.cons atx (.cons atx (.cons atx (.cons atx (.cons atx (.cons atx (.cons atx (.cons atx (.cons atx (.cons atx sbx))))))))))⟩
          ·obtain ⟨p, e', hno, rfl, hS⟩ := h
           rw [hview] at hno
           exact QX.panic hk ⟨p, e', hno, rfl, hS.sub sbx⟩
         ·refine an_op (i := 5) rfl hk (g_bsT (xs := [((0, ⟨#[]⟩, ⟨#[]⟩, ⟨#[]⟩, ⟨none, 0, 0⟩, ⟨none, 0, 0⟩, ⟨none, 0, 0⟩, o0, ⟨none, 0, 0⟩) : NdH)]) (m := 0) hk hS (fun w u hS a hk => ?_) (hT := eT rfl) (hE := zT rfl) (hz := oT rfl)) rfl
          exact jAC a _ ⟨u, hk.sub skx, hS.sub (.cons atx (.cons atx (.cons atx (.cons atx (.cons atx (.cons atx (.cons atx (.cons atx (.cons atx (.cons atx sbx))))))))))⟩
        refine an_cut (fun a w => ∃ t r v, vr0 = .ok t r ∧ Kn [] 88 a [(0, .pointer (some ⟨br, 0, none⟩)), (2, .pointer (some ⟨b2, 0, none⟩)), (5, .pointer (some ⟨b, 0, none⟩)), (6, mv), (79, .pointer (some ⟨b, 13, none⟩)), (81, .pointer (some ⟨br, 0, none⟩)), (82, v)] ∧ St B (nodL b k tag key cl al sl (e, lv, mo, d, p1, p2) hc ha hss ⟨ah, H.length, mh⟩ mv (seen.map keyP) (OwT 31 H (⟨ah, H.length, mh⟩ : Hd).v :: forR (snapTs kids) H :: pts b2 nd0 31 :: treeH (snapT t) v :: rdr br s r (op + 1) :: L)) w) 8 #[true, false, true, true, false, false, false, false, false, false, false] ?_ (fun jB => ?_)
        ·rintro a w ⟨t, r, v, hok, hk, hS⟩
         refine an_step (i := 1) (rs := [5]) (by kernel_rfl) ?_
         intro jx hjx
         simp only [List.mem_cons, List.not_mem_nil, or_false] at hjx
         rcases hjx with rfl | rfl
         ·refine an_op (i := 1) rfl hk (g_own1 hk hS (fun a hk => ?_) (aT rfl)) rfl
          refine an_take (i := 4) (k := 6) rfl hk (by kernel_rfl) (by kernel_rfl) (by kernel_rfl) (y_len hk (eT rfl) rfl) ab_len rfl (fun a hk => ?_) rfl
          exact jAB a _ ⟨t, r, v, hok, hk.sub skx, hS.sub (.cons atx (.cons atx (.cons atx (.cons atx (.cons atx (.cons atx (.cons atx (.cons atx (.cons atx (.cons atx sbx))))))))))⟩
         ·refine an_op (i := 5) rfl hk (g_bsT (xs := [((0, ⟨#[]⟩, ⟨#[]⟩, ⟨#[]⟩, ⟨none, 0, 0⟩, ⟨none, 0, 0⟩, ⟨none, 0, 0⟩, o0, ⟨none, 0, 0⟩) : NdH)]) (m := 0) hk hS (fun w u hS a hk => ?_) (hT := eT rfl) (hE := zT rfl) (hz := oT rfl)) rfl
          exact jBC a _ ⟨t, r, v, u, hok, hk.sub skx, hS.sub (.cons atx (.cons atx (.cons atx (.cons atx (.cons atx (.cons atx (.cons atx (.cons atx (.cons atx (.cons atx (.cons atx sbx)))))))))))⟩
        refine an_cut (fun a w => ∃ u, Kn [] 88 a [(0, .pointer (some ⟨br, 0, none⟩)), (2, .pointer (some ⟨b2, 0, none⟩)), (5, .pointer (some ⟨b, 0, none⟩)), (6, mv), (79, .pointer (some ⟨b, 13, none⟩)), (81, .pointer (some ⟨br, 0, none⟩)), (84, u)] ∧ St B (nodL b k tag key cl al sl (e, lv, mo, d, p1, p2) hc ha hss ⟨ah, H.length, mh⟩ mv (seen.map keyP) (OwT 31 H (⟨ah, H.length, mh⟩ : Hd).v :: forR (snapTs kids) H :: pts b2 nd0 31 :: rdr br s q (op + 1) :: OwT 31 [((0, ⟨#[]⟩, ⟨#[]⟩, ⟨#[]⟩, ⟨none, 0, 0⟩, ⟨none, 0, 0⟩, ⟨none, 0, 0⟩, o0, ⟨none, 0, 0⟩) : NdH)] u :: L)) w) 8 #[true, false, true, false, false, true, false, false, false, false, false] ?_ (fun jC => ?_)
        ·rintro a w ⟨u, hk, hS⟩
         refine an_step (i := 1) (rs := [3]) (by kernel_rfl) ?_
         intro jx hjx
         simp only [List.mem_cons, List.not_mem_nil, or_false] at hjx
         rcases hjx with rfl | rfl
         ·refine an_op (i := 1) rfl hk (g_own1 hk hS (fun a hk => ?_) (aT rfl)) rfl
          refine an_take (i := 4) (k := 6) rfl hk (by kernel_rfl) (by kernel_rfl) (by kernel_rfl) (y_len hk (eT rfl) rfl) ab_len rfl (fun a hk => ?_) rfl
          exact jAC a _ ⟨u, hk.sub skx, hS.sub (.cons atx (.cons atx (.cons atx (.cons atx (.cons atx (.cons atx (.cons atx (.cons atx (.cons atx (.cons atx sbx))))))))))⟩
         ·refine an_opP (i := 3) rfl hk ((g_callP hk (hf := by kernel_rfl) (hc := ih (m' + 1) (by omega) br s q (op + 1) B _ _ hs hle (by omega) (by omega) (hS.sub (.cons atx .refl)))).mono (fun v w h => ?_) (fun ch w h => ?_)) rfl
          ·obtain ⟨t, r, hok, hS⟩ := h
           rw [hview] at hok
           intro a hk
           exact jBC a _ ⟨t, r, v, u, hok, hk.sub skx, hS.sub (.cons atx (.cons atx (.cons atx (.cons atx (.cons atx (.cons atx (.cons atx (.cons atx (.cons atx (.cons atx (.cons atx sbx)))))))))))⟩
          ·obtain ⟨p, e', hno, rfl, hS⟩ := h
           rw [hview] at hno
           exact QX.panic hk ⟨p, e', hno, rfl, hS.sub sbx⟩
        refine an_step (i := 1) (rs := [3, 5]) (by kernel_rfl) ?_
        intro jx hjx
        simp only [List.mem_cons, List.not_mem_nil, or_false] at hjx
        rcases hjx with rfl | rfl | rfl
        ·refine an_op (i := 1) rfl hk (g_own1 hk hS (fun a hk => ?_) (aT rfl)) rfl
         refine an_take (i := 4) (k := 7) rfl hk (by kernel_rfl) (by kernel_rfl) (by kernel_rfl) (y_len hk (eT rfl) rfl) ab_len rfl (fun a hk => ?_) rfl
         exact jA a _ ⟨hk.sub skx, hS.sub (.cons atx (.cons atx (.cons atx (.cons atx (.cons atx (.cons atx (.cons atx (.cons atx (.cons atx sbx)))))))))⟩
        ·refine an_opP (i := 3) rfl hk ((g_callP hk (hf := by kernel_rfl) (hc := ih (m' + 1) (by omega) br s q (op + 1) B _ _ hs hle (by omega) (by omega) (hS.sub (.cons atx .refl)))).mono (fun v w h => ?_) (fun ch w h => ?_)) rfl
         ·obtain ⟨t, r, hok, hS⟩ := h
          rw [hview] at hok
          intro a hk
          exact jB a _ ⟨t, r, v, hok, hk.sub skx, hS.sub (.cons atx (.cons atx (.cons atx (.cons atx (.cons atx (.cons atx (.cons atx (.cons atx (.cons atx (.cons atx sbx))))))))))⟩
         ·obtain ⟨p, e', hno, rfl, hS⟩ := h
          rw [hview] at hno
          exact QX.panic hk ⟨p, e', hno, rfl, hS.sub sbx⟩
        ·refine an_op (i := 5) rfl hk (g_bsT (xs := [((0, ⟨#[]⟩, ⟨#[]⟩, ⟨#[]⟩, ⟨none, 0, 0⟩, ⟨none, 0, 0⟩, ⟨none, 0, 0⟩, o0, ⟨none, 0, 0⟩) : NdH)]) (m := 0) hk hS (fun w u hS a hk => ?_) (hT := eT rfl) (hE := zT rfl) (hz := oT rfl)) rfl
         exact jC a _ ⟨u, hk.sub skx, hS.sub (.cons atx (.cons atx (.cons atx (.cons atx (.cons atx (.cons atx (.cons atx (.cons atx (.cons atx (.cons atx sbx))))))))))⟩
     ·have hne : ∀ hj : q < s.size, s[q].toNat ≠ 39 ∧ s[q].toNat ≠ 40 ∧ s[q].toNat ≠ 41 := fun hql => ⟨fun h => hvw ⟨hql, .inr h⟩, fun h => hvw ⟨hql, .inl h⟩, fun h => hcl ⟨hql, h⟩⟩
      obtain ⟨k1, k2, k3⟩ := hel hne
      have n41 : nextB s q ≠ 41 := by
       by_cases hql : q < s.size
       ·rw [nextB_is hql];have := (hne hql).2.2;omega
       ·rw [nextB_no hql];decide
      have n40 : nextB s q ≠ 40 := by
       by_cases hql : q < s.size
       ·rw [nextB_is hql];have := (hne hql).2.1;omega
       ·rw [nextB_no hql];decide
      have n39 : nextB s q ≠ 39 := by
       by_cases hql : q < s.size
       ·rw [nextB_is hql];have := (hne hql).1;omega
       ·rw [nextB_no hql];decide
      rw [if_neg k2] at hR
      (repeat' (first|((first|refine wx1 ?_|refine wx2 ?_ ?_<;>intro hp|refine s_end hk ?_)<;>(clear hk a;intro a hk))|((first|refine wx3 ?_;intro w b|refine wx4 ?_;intro w|refine wx5 ?_;intro w v);clear hk hS a;intro hS a hk)|refine wx0 ?_|fail))
      refine sgP hk ((g_callP hk (hf := by kernel_rfl) (hc := word_any br s q (op + 1) (by omega) hle (hS.sub (.cons atx .refl)))).mono (fun v w h => ?_) (fun ch w h => ?_))
      rotate_left
      ·clear hk hS a
       intro a hk
       rw [hsk] at h
       obtain ⟨h4, rfl, hS⟩ := h
       rw [if_neg h4] at hR
       obtain ⟨m', rfl⟩ : ∃ m', m = m' + 1 := ⟨m - 1, by omega⟩
       simp only [viewF] at hR
       rw [if_neg k3, if_neg k1] at hR
       (repeat (first | refine then_panic ?_ | refine inBlock_panic ?_))
       exact DoneP.panic hk ⟨_, 2, hR.symm, rfl, hS.sub sbx⟩
      ·clear hk hS a
       intro a hk
       rw [hsk] at h
       obtain ⟨h4, rfl, hS⟩ := h
       rw [if_pos h4] at hR
       obtain ⟨tw1, tw2⟩ := tok_w hi h4
       obtain ⟨tt1, tt2⟩ := tok_till (s := s) (i := i) (by omega) (by omega)
       generalize tokF s i = tk at *
       (repeat' (first|((first|refine wx1 ?_|refine wx2 ?_ ?_<;>intro hp|refine s_end hk ?_)<;>(clear hk a;intro a hk))|((first|refine wx3 ?_;intro w b|refine wx4 ?_;intro w|refine wx5 ?_;intro w v);clear hk hS a;intro hS a hk)|refine wx0 ?_|fail))
       refine sg hk (g_callO hk (hf := by kernel_rfl) (hc := item_any b k tag key cl al sl hc ha hss hh (e, lv, mo, d, p1, p2) tk.txt (seen.map keyP) mv tw1 (by omega) (by omega) (by omega) (by omega) (hS.sub (.cons atx (.cons atx (.cons atx (.cons atx (.cons atx .refl))))))) (h := ?_));clear hk hS a;intro vr w hS a hk
       obtain ⟨he1, he2⟩ := item_eq (n := ⟨k, tag, key, cl, al, sl, (e, lv, mo, d, p1, p2)⟩) (w := tk.txt) hgd
       rw [← he1] at hS
       cases hit : itemF ⟨k, tag, key, cl, al, sl, (e, lv, mo, d, p1, p2)⟩ tk.txt seen with
       | none =>
        rw [hit] at hS hR
        obtain ⟨rfl, hS⟩ := hS
        (repeat' (first|((first|refine wx1 ?_|refine wx2 ?_ ?_<;>intro hp|refine s_end hk ?_)<;>(clear hk a;intro a hk))|((first|refine wx3 ?_;intro w b|refine wx4 ?_;intro w|refine wx5 ?_;intro w v);clear hk hS a;intro hS a hk)|refine wx0 ?_|fail))
        refine sgP hk ((g_callP hk (hf := by kernel_rfl) (hc := fail_any tk.at_ 2 _)).mono (fun v w h => h.elim) (fun ch w h a hk => ?_))
        obtain ⟨rfl, hS1⟩ := h
        (repeat (first | refine then_panic ?_ | refine inBlock_panic ?_))
        exact DoneP.panic hk ⟨_, 2, hR.symm, rfl, (hS.call0 hS1).sub sbx⟩
       | some y =>
        obtain ⟨⟨k', tag', key', cl', al', sl', o'⟩, more⟩ := y
        rw [hit] at hS hR
        obtain ⟨hc', ha', hs', rfl, hS⟩ := hS
        obtain ⟨z1, z2, z3⟩ := item_len hit
        simp only at z1 z2 z3
        (repeat' (first|((first|refine wx1 ?_|refine wx2 ?_ ?_<;>intro hp|refine s_end hk ?_)<;>(clear hk a;intro a hk))|((first|refine wx3 ?_;intro w b|refine wx4 ?_;intro w|refine wx5 ?_;intro w v);clear hk hS a;intro hS a hk)|refine wx0 ?_|fail))
        clear hvw hcl hne hel h1 h2 hq
        refine ⟨⟨tk.till, m, ⟨k', tag', key', cl', al', sl', o'⟩, more, kids, H, hc', ha', hs', hh⟩, ?_, hk.sub skx, hS.sub (.cons atx (.cons atx (.cons atx (.cons atx (.cons atx (.cons atx (.cons atx (.cons atx (.cons atx sbx))))))))), hR, tt2, ?_, ?_, he2 _ _ hit, ?_, ?_, ?_, ?_⟩
        ·show s.size - tk.till < s.size - i;omega
        ·show 2 * (s.size - tk.till) + 3 ≤ m;omega
        ·show m ≤ f;omega
        ·show cl'.length ≤ tk.till;omega
        ·show al'.length ≤ tk.till;omega
        ·show sl'.length ≤ tk.till;omega
        ·show kids.length ≤ tk.till;omega
end Go.Proofs.YtnjmonkehjlaoaaGreatDoor
namespace Go.Proofs.YtnjmonkehjlaoaaGreatDoor
open Go.RowKit
section
variable {P : Program} {Q : Exit → Act → World → Prop} {a : Act} {w w' : World} {n : Nat} {l : List (Nat × Value)} {df : List Deferred} {rr : Option Nat} {ops : Array Oper} {K : Act → World → Prop}
 {d : Nat} {dst : Option Nat} {ty : TypeId} {pos : String} {af : Array Edge} {g : Option (Nat × Bool)}
theorem an_at {k : Nat} {listed l' : Array Bool} (h : Any rr P ops Q k l' a w) (e : listed = l') : Any rr P ops Q k listed a w := e ▸ h
theorem y_assign {x : Operand} {v : Value} (hk : Kn df n a l) (hx : ev l x = some v) : ∀ w, (execOp a.eval ⟨dst, .assign x, ty, pos, af, g⟩).run P w = .ok (.value v) w := fun w => by rw [← hk.eval hx]; rfl
theorem y_ext {x : Operand} {i : Nat} {vs : Array Value} {v : Value} (hk : Kn df n a l) (hx : ev l x = some (.tuple vs)) (hv : vs[i]? = some v) : ∀ w, (execOp a.eval ⟨dst, .extract x i, ty, pos, af, g⟩).run P w = .ok (.value v) w := fun w => by
 simp [execOp, hk.eval hx, Instr.extract, hv]
theorem y_ixT {α : Type} [Enc α] {x y : Operand} {t : TypeId} {i : Nat} {v : Value} {xs : List α} {E : Nat} {kk : IntKind} (hk : Kn df n a l) (hs : SlT xs v w') (hi : i < xs.length) (ht : elOf P t = some E) (hE : szOf P E = some (Enc.k α + 1))
  (hx : ev l x = some v) (hy : ev l y = some (.int kk (i : Int))) : ∀ w, (execOp a.eval ⟨dst, .indexAddr t x y, ty, pos, af, g⟩).run P w = .ok (.value (.pointer (some ⟨blk v, offs v + i * (Enc.k α + 1), none⟩))) w := fun w => by
 rcases hs.2.2 with ⟨h1, h2⟩ | ⟨ad, c, rfl, _, _, hcell⟩
 ·omega
 ·have hlt : i * (Enc.k α + 1) < (enc xs).length := by
   rw [hs.1]
   exact Nat.mul_lt_mul_of_pos_right hi (by omega)
  obtain ⟨hsp, _⟩ := hcell (i * (Enc.k α + 1)) _ (List.getElem?_eq_getElem hlt)
  obtain ⟨b, o, sp⟩ := ad
  simp only at hsp
  subst hsp
  have key : (execOp a.eval ⟨dst, .indexAddr t x y, ty, pos, af, g⟩).run P w = .ok (.value (.pointer (some ⟨b, o + i * (Enc.k α + 1), none⟩))) w := by
   simp [execOp, hk.eval hx, hk.eval hy, Instr.indexAt, run_underlying (elOf_und ht), asIntOf, hi, szOf_run hE, addr_add]
  exact key
theorem y_slT {x y : Operand} {t E k m c j : Nat} {ao : Option Addr} {kk : IntKind} (hk : Kn df n a l)
  (hx : ev l x = some (.slice ao m c)) (hy : ev l y = some (.int kk (j : Int))) (ht : elOf P t = some E) (hE : szOf P E = some k) (hj : j ≤ c) :
  ∀ w, (execOp a.eval ⟨dst, .slice t x none (some y) none, ty, pos, af, g⟩).run P w = .ok (.value (.slice (if c = 0 then ao else ao.map (·.add 0)) j c)) w := fun w => by
 simp [execOp, hk.eval hx, hk.eval hy, Instr.sliceAt, Instr.slice, run_underlying (elOf_und ht), Instr.sliceBounds, Instr.sliceBound, asIntOf, hj, szOf_run hE]
theorem y_slF {x y : Operand} {t E k m c i : Nat} {ao : Option Addr} {kk : IntKind} (hk : Kn df n a l)
  (hx : ev l x = some (.slice ao m c)) (hy : ev l y = some (.int kk (i : Int))) (ht : elOf P t = some E) (hE : szOf P E = some k) (hi : i ≤ m) :
  ∀ w, (execOp a.eval ⟨dst, .slice t x (some y) none none, ty, pos, af, g⟩).run P w = .ok (.value (.slice (if c = i then ao else ao.map (·.add (i * k))) (m - i) (c - i))) w := fun w => by
 simp [execOp, hk.eval hx, hk.eval hy, Instr.sliceAt, Instr.slice, run_underlying (elOf_und ht), Instr.sliceBounds, Instr.sliceBound, asIntOf, hi, szOf_run hE]
end
end Go.Proofs.YtnjmonkehjlaoaaGreatDoor
