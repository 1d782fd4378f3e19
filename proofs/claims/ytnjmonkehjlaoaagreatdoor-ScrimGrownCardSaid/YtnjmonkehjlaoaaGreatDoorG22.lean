/- Layer 8: the document's reader of a view. Own slices, cut. Layer 8, plain: attributes of what is read have names of their own. -/
import Derived.Test.YtnjmonkehjlaoaaGreatDoorG19
import Derived.Test.YtnjmonkehjlaoaaGreatDoorG20
import Derived.Test.YtnjmonkehjlaoaaGreatDoorG21
import Derived.Test.YtnjmonkehjlaoaaGreatDoorG07
import Derived.Test.YtnjmonkehjlaoaaGreatDoorG13
import Derived.Test.YtnjmonkehjlaoaaGreatDoorG12
set_option linter.all false
namespace Go.Proofs.YtnjmonkehjlaoaaGreatDoor
open Go.RowKit
set_option maxRecDepth 100000
attribute [local irreducible] Go.Code.wpIn Go.wpListIn Go.Calls Gives Go.Exit.then Go.Exit.inBlock Done ObxE
theorem drop_hd {s : ByteArray} {a i : Nat} (h : (toksL s 0).drop a = toksL s i) : (toksL s 0)[a]? = some (tokF s i) := by
 obtain ⟨r, hr⟩ := toks_ne s i
 rw [← List.head?_drop, h, hr];rfl
theorem drop_tl {s : ByteArray} {a i : Nat} (h : (toksL s 0).drop a = toksL s i) (h0 : (tokF s i).kind ≠ 0) (h5 : (tokF s i).kind ≠ 5) : (toksL s 0).drop (a + 1) = toksL s (tokF s i).till := by
 rw [← List.drop_drop, h, toks_more h0 h5, List.drop_one];rfl
theorem item_seen {n m : Itm} {w : ByteArray} {seen more : List ByteArray} (h : itemF n w seen = some (m, more)) : more.length ≤ seen.length + 1 := by
 unfold itemF at h
 cases ha : addF n w with
 | none => rw [ha] at h;cases h
 | some q =>
  rw [ha] at h
  simp only at h
  repeat' split at h
  all_goals first
   | (cases h;done)
   | (injection h with h;injection h with _ h;subst h;simp)
def ItS (B : Bs) (L : List HP) (it : Option (Itm × List ByteArray)) (m : Itm) (hc ha hs : Hd) (vs : Value) (ok : Bool) (w : World) : Prop := match it with
 | some (mm, more) => m = mm ∧ ok = true ∧ St B (OwT 9 m.cl hc.v :: OwT 109 m.al ha.v :: OwT 135 m.sl hs.v :: OwT 9 more vs :: L) w
 | none => ok = false ∧ St B L w
theorem ItR.flat {B : Bs} {L : List HP} {hh : Hd} {it : Option (Itm × List ByteArray)} {v : Value} {w : World} (h : ItR B L hh it v w) :
  ∃ (m : Itm) (hc ha hs : Hd) (vs : Value) (ok : Bool), v = .tuple #[.agg (ndC m.k m.tag m.key hc ha hs m.o hh).toArray, vs, .bool ok] ∧ ItS B L it m hc ha hs vs ok w := by
 cases it with
 | none => obtain ⟨m, hc, ha, hs, vs, h1, h2⟩ := h;exact ⟨m, hc, ha, hs, vs, false, h1, rfl, h2⟩
 | some y => obtain ⟨m, more⟩ := y;obtain ⟨hc, ha, hs, vs, h1, h2⟩ := h;exact ⟨m, hc, ha, hs, vs, true, h1, rfl, rfl, h2⟩
structure E8 where
 i : Nat
 f : Nat
 a : Nat
 n : Itm
 seen : List ByteArray
 kids : List Tree
 H : List NdH
 hc : Hd
 ha : Hd
 hs : Hd
 hh : Hd
 vs : Value
section
variable (s : ByteArray) (vl : Value)
abbrev e8L (T : List Tok) (b6 b9 b10 : Nat) (x : E8) (L : List HP) : List HP :=
 pts b10 (ndC x.n.k x.n.tag x.n.key x.hc x.ha x.hs x.n.o x.hh) 42 :: OwT 9 x.n.cl x.hc.v :: OwT 109 x.n.al x.ha.v :: OwT 135 x.n.sl x.hs.v :: OwT 9 x.seen x.vs ::
 OwT 42 x.H x.hh.v :: forR x.kids x.H :: pts b9 nd0 42 :: pts b6 nd0 42 :: OwT 79 (T.map tkC) vl :: L
def RdR (B : Bs) (L : List HP) (r : Rd Tree) (v : Value) (w : World) : Prop := match r with
 | .ok t j => ∃ u, ∃ a : Nat, v = .tuple #[u, .int .i64 (a : Int), .int .i64 0] ∧ (toksL s 0).drop a = toksL s j ∧ St B (treeH t u :: OwT 79 ((toksL s 0).map tkC) vl :: L) w
 | .no p e => ∃ a : Nat, ∃ tk, v = .tuple #[.agg nd0.toArray, .int .i64 (a : Int), .int .i64 e] ∧ (toksL s 0)[a]? = some tk ∧ tk.at_ = p ∧ e ≠ 0 ∧ St B (OwT 79 ((toksL s 0).map tkC) vl :: L) w
def VC8 (f : Nat) : Prop := ∀ (i op a : Nat) (B : Bs) (L : List HP) (w : World), i ≤ s.size → op ≤ 40 → 2 * (s.size - i) + 2 ≤ f → (toksL s 0).drop a = toksL s i → TabW B.w → St B (OwT 79 ((toksL s 0).map tkC) vl :: L) w →
 Calls Tryz.prog 28 #[vl, .int .i64 (a : Int), .int .i64 (op : Int)] w (Ret (RdR s vl B L (viewF s f i op)))
set_option maxHeartbeats 16000000 in
theorem read8_all (hs : s.size ≤ 900) : ∀ f, VC8 s vl f := by
 intro f
 induction f using Nat.strongRecOn with
 | _ f ih =>
 intro i op a0 B L w hi hop hf hdr ht hS
 obtain ⟨m, rfl⟩ : ∃ m, f = m + 1 := ⟨f - 1, by omega⟩
 have hg := drop_hd hdr
 have htl := drop_tl hdr
 have htt := tok_till (s := s) (i := i)
 have hR : viewF s (m + 1) i op = viewF s (m + 1) i op := rfl
 conv at hR => rhs;simp only [viewF]
 have hTl := toks_len1 s s.size 0 (by omega)
 generalize hT : toksL s 0 = T at *
 generalize hg0 : tokF s i = g at *
 have hgm : (T.map tkC)[a0]? = some (tkC g) := by rw [List.getElem?_map, hg];rfl
 have hal : a0 < T.length := by
  rcases Nat.lt_or_ge a0 T.length with h | h
  ·exact h
  ·rw [List.getElem?_eq_none h] at hg;cases hg
 have hml : (T.map tkC).length = T.length := List.length_map _
 have q1 : (tkC g).1 = (g.kind : Int) := rfl
 generalize viewF s (m + 1) i op = R0 at *
 refine enter Tryz.func28 rfl Tryz.ntmps28 rfl (fun a hk => ?_)
 by_cases k3 : g.kind = 3
 ·rw [if_pos k3] at hR
  have hz : g.txt = g.txt := rfl
  (repeat' (first|((first|refine wx1 ?_|refine wx2 ?_ ?_<;>intro hp|refine s_end hk ?_)<;>(clear hk a;intro a hk))|((first|refine wx3 ?_;intro w b|refine wx4 ?_;intro w|refine wx5 ?_;intro w v);clear hk hS a;intro hS a hk)|refine wx0 ?_|fail))
  refine done3R hk rfl (.str hS (hT := aT rfl) (hs := zT rfl)) (.tmp rfl) (.tmp rfl) (h := ?_)
  rw [hR]
  have h5 := (((((forR.nil (hS.sub (L' := OwT 79 (T.map tkC) vl :: L) (.cons atx sbx))).nilT 42 NdH).nilT 135 PrI).nilT 109 PrS).nilT 9 ByteArray)
  refine ⟨_, a0 + 1, rfl, by rw [hT];exact htl (by omega) (by omega), ?_⟩
  rw [hT]
  exact treeH.of (h := (1, ⟨#[]⟩, ⟨#[]⟩, g.txt, ⟨none, 0, 0⟩, ⟨none, 0, 0⟩, ⟨none, 0, 0⟩, o0, ⟨none, 0, 0⟩)) (treeR.of h5)
 ·rw [if_neg k3] at hR
  by_cases k1 : g.kind = 1
  ·rw [if_pos k1] at hR
   by_cases h40 : 40 ≤ op
   ·rw [if_pos h40] at hR
    have hoe : op = 40 := by omega
    (repeat' (first|((first|refine wx1 ?_|refine wx2 ?_ ?_<;>intro hp|refine s_end hk ?_)<;>(clear hk a;intro a hk))|((first|refine wx3 ?_;intro w b|refine wx4 ?_;intro w|refine wx5 ?_;intro w v);clear hk hS a;intro hS a hk)|refine wx0 ?_|fail))
    refine done3R hk rfl (.str hS (hT := aT rfl) (hs := zT rfl)) (.tmp rfl) (.tmp rfl) (h := ?_)
    rw [hR]
    exact ⟨a0, g, rfl, by rw [hT];exact hg, rfl, by decide, by rw [hT];exact hS.sub (.cons atx sbx)⟩
   ·rw [if_neg h40] at hR
    have hdr2 := htl (by omega) (by omega)
    obtain ⟨hm1, hm2⟩ := htt (by omega) (by omega)
    have hg2 : T[a0 + 1]? = some (tokF s g.till) := by rw [← hT] at hdr2 ⊢;exact drop_hd hdr2
    have htl2 : (tokF s g.till).kind ≠ 0 → (tokF s g.till).kind ≠ 5 → T.drop (a0 + 1 + 1) = toksL s (tokF s g.till).till := by rw [← hT] at hdr2 ⊢;exact drop_tl hdr2
    have htt2 := tok_till (s := s) (i := g.till)
    have hw2 := tok_w (s := s) (i := g.till) hm2
    generalize hg1 : tokF s g.till = g2 at *
    have hgm2 : (T.map tkC)[a0 + 1]? = some (tkC g2) := by rw [List.getElem?_map, hg2];rfl
    have hal2 : a0 + 1 < T.length := by
     rcases Nat.lt_or_ge (a0 + 1) T.length with h | h
     ·exact h
     ·rw [List.getElem?_eq_none h] at hg2;cases hg2
    have q2 : (tkC g2).1 = (g2.kind : Int) := rfl
    rw [show ((a0 + 1 : Nat)) = a0 + 1 from rfl] at hgm2
    by_cases k4 : g2.kind = 4
    ·obtain ⟨hw3, hw4⟩ := hw2 k4
     obtain ⟨hn1, hn2⟩ := htt2 (by omega) (by omega)
     (repeat' (first|((first|refine wx1 ?_|refine wx2 ?_ ?_<;>intro hp|refine s_end hk ?_)<;>(clear hk a;intro a hk))|((first|refine wx3 ?_;intro w b|refine wx4 ?_;intro w|refine wx5 ?_;intro w v);clear hk hS a;intro hS a hk)|refine wx0 ?_|fail))
     rename_i b6 w1
     rename Nat => b9
     refine sg hk (g_callO hk (hf := by kernel_rfl) (hc := rname_any g2.txt (by omega) _) (h := ?_));clear hk a;rintro _ w ⟨rfl, hS1⟩ a hk;replace hS := hS.call0 hS1;clear hS1
     cases hb : nameS g2.txt with
     | false =>
      rw [hb] at hk
      rw [if_neg (by rw [hb];rintro ⟨-, h⟩;cases h)] at hR
      (repeat' (first|((first|refine wx1 ?_|refine wx2 ?_ ?_<;>intro hp|refine s_end hk ?_)<;>(clear hk a;intro a hk))|((first|refine wx3 ?_;intro w b|refine wx4 ?_;intro w|refine wx5 ?_;intro w v);clear hk hS a;intro hS a hk)|refine wx0 ?_|fail))
      refine done3R hk rfl (.str hS (hT := aT rfl) (hs := zT rfl)) (.tmp rfl) (.tmp rfl) (h := ?_)
      rw [hR]
      exact ⟨a0 + 1, g2, rfl, by rw [hT];exact hg2, rfl, by decide, by rw [hT];exact hS.sub (.cons atx sbx)⟩
     | true =>
      rw [hb] at hk
      rw [if_pos ⟨k4, hb⟩] at hR
      (repeat' (first|((first|refine wx1 ?_|refine wx2 ?_ ?_<;>intro hp|refine s_end hk ?_)<;>(clear hk a;intro a hk))|((first|refine wx3 ?_;intro w b|refine wx4 ?_;intro w|refine wx5 ?_;intro w v);clear hk hS a;intro hS a hk)|refine wx0 ?_|fail))
      rename Nat => b10
      refine sg hk (g_bs0 ByteArray hS ?_ (hT := eT rfl) (hE := zT rfl));clear hk hS a;intro w v11 hS a hk
      (repeat' (first|((first|refine wx1 ?_|refine wx2 ?_ ?_<;>intro hp|refine s_end hk ?_)<;>(clear hk a;intro a hk))|((first|refine wx3 ?_;intro w b|refine wx4 ?_;intro w|refine wx5 ?_;intro w v);clear hk hS a;intro hS a hk)|refine wx0 ?_|fail))
      have h5 := (((((forR.nil hS).nilT 42 NdH).nilT 135 PrI).nilT 109 PrS).nilT 9 ByteArray)
      replace hk := Kn.kp [0, 1, 2, 6, 9, 10, 11] hk
      rw [show ((a0 : Int) + 1 + 1) = ((a0 + 1 + 1 : Nat) : Int) by omega] at hk
      refine wp_while (fun x : E8 => [(1, .int .i64 (x.a : Int)), (11, x.vs)]) (fun x => e8L vl T b6 b9 b10 x L)
       (fun x => elemF s x.f x.i (op + 1) x.n x.seen x.kids = R0 ∧ x.i ≤ s.size ∧ 2 * (s.size - x.i) + 3 ≤ x.f ∧ x.f ≤ m ∧ T.drop x.a = toksL s x.i ∧ x.n.cl.length ≤ x.i ∧ x.n.al.length ≤ x.i ∧ x.n.sl.length ≤ x.i ∧ x.kids.length ≤ x.i ∧ x.seen.length ≤ x.i)
       (fun x => s.size - x.i) ⟨g2.till, m, a0 + 1 + 1, ⟨2, g2.txt, ⟨#[]⟩, [], [], [], o0⟩, [], [], [], ⟨none, 0, 0⟩, ⟨none, 0, 0⟩, ⟨none, 0, 0⟩, ⟨none, 0, 0⟩, v11⟩ hk skx
       (h5.sub (.cons atx (.cons atx (.cons atx (.cons atx (.cons atx (.cons atx (.cons atx (.cons atx (.cons atx (.cons atx sbx)))))))))))
       ⟨hR.symm, hn2, by show 2 * (s.size - g2.till) + 3 ≤ m;omega, Nat.le_refl _, htl2 (by omega) (by omega), Nat.zero_le _, Nat.zero_le _, Nat.zero_le _, Nat.zero_le _, Nat.zero_le _⟩ ?_
      clear hk hS a h5 hR
      rintro ⟨i2, fu, a2, ⟨k, tag, key, cl, al, sl, ⟨e, lv, mo, d, p1, p2⟩⟩, seen, kids, H, hc, ha, hss, hh, vs⟩ a w hk hS ⟨hR, hi2, hfu, hff, hdr3, lcl, lal, lsl, lks, lse⟩
      simp only at hk hS hR hi2 hfu hff hdr3 lcl lal lsl lks lse
      obtain ⟨m2, rfl⟩ : ∃ m2, fu = m2 + 1 := ⟨fu - 1, by omega⟩
      simp only [elemF] at hR
      have hg3 : T[a2]? = some (tokF s i2) := by rw [← hT] at hdr3 ⊢;exact drop_hd hdr3
      have htl3 : (tokF s i2).kind ≠ 0 → (tokF s i2).kind ≠ 5 → T.drop (a2 + 1) = toksL s (tokF s i2).till := by rw [← hT] at hdr3 ⊢;exact drop_tl hdr3
      have htt3 := tok_till (s := s) (i := i2)
      have hw3' := tok_w (s := s) (i := i2) hi2
      generalize hge : tokF s i2 = ge at *
      have hgm3 : (T.map tkC)[a2]? = some (tkC ge) := by rw [List.getElem?_map, hg3];rfl
      have hal3 : a2 < T.length := by
       rcases Nat.lt_or_ge a2 T.length with h | h
       ·exact h
       ·rw [List.getElem?_eq_none h] at hg3;cases hg3
      have q3 : (tkC ge).1 = (ge.kind : Int) := rfl
      by_cases c2 : ge.kind = 2
      ·rw [if_pos c2] at hR
       (repeat' (first|((first|refine wx1 ?_|refine wx2 ?_ ?_<;>intro hp|refine s_end hk ?_)<;>(clear hk a;intro a hk))|((first|refine wx3 ?_;intro w b|refine wx4 ?_;intro w|refine wx5 ?_;intro w v);clear hk hS a;intro hS a hk)|refine wx0 ?_|fail))
       refine done3R hk rfl (.str hS (hT := aT rfl) (hs := zT rfl)) (.tmp rfl) (.tmp rfl) (h := ?_)
       rw [← hR]
       refine ⟨_, a2 + 1, rfl, by rw [hT];exact htl3 (by omega) (by omega), ?_⟩
       rw [hT]
       exact treeH.of (h := (k, tag, key, ⟨#[]⟩, hc, ha, hss, (e, lv, mo, d, p1, p2), hh)) (treeR.of (A1 := OwT 9 cl hc.v) (A2 := OwT 109 al ha.v) (A3 := OwT 135 sl hss.v) (A4 := OwT 42 H hh.v) (kids := kids) (H := H) (hS.sub (.cons atx (.cons atx (.cons atx (.cons atx (.cons atx (.cons atx sbx))))))))
      ·rw [if_neg c2] at hR
       by_cases c4 : ge.kind = 4
       ·obtain ⟨hw5, hw6⟩ := hw3' c4
        obtain ⟨hn3, hn4⟩ := htt3 (by omega) (by omega)
        rw [if_pos c4] at hR
        (repeat' (first|((first|refine wx1 ?_|refine wx2 ?_ ?_<;>intro hp|refine s_end hk ?_)<;>(clear hk a;intro a hk))|((first|refine wx3 ?_;intro w b|refine wx4 ?_;intro w|refine wx5 ?_;intro w v);clear hk hS a;intro hS a hk)|refine wx0 ?_|fail))
        generalize hit : itemF ⟨k, tag, key, cl, al, sl, (e, lv, mo, d, p1, p2)⟩ ge.txt seen = it at hR
        have hq4 : (tkC ge).2.2 = ge.txt := rfl
        refine an_region (fun a w => match it with
         | some (mm, more) => ∃ (hc' ha' hs' : Hd) (vs' : Value) (b12 : Nat), Kn [] 131 a [(0, vl), (1, .int .i64 (a2 : Int)), (2, .int .i64 (op : Int)), (6, .pointer (some ⟨b6, 0, none⟩)), (9, .pointer (some ⟨b9, 0, none⟩)), (10, .pointer (some ⟨b10, 0, none⟩)), (12, .pointer (some ⟨b12, 0, none⟩)), (13, vs'), (14, .bool true)] ∧
           St B (pts b12 (ndC mm.k mm.tag mm.key hc' ha' hs' mm.o hh) 42 :: pts b10 (ndC k tag key hc ha hss (e, lv, mo, d, p1, p2) hh) 42 :: OwT 9 mm.cl hc'.v :: OwT 109 mm.al ha'.v :: OwT 135 mm.sl hs'.v :: OwT 9 more vs' ::
            OwT 42 H hh.v :: forR kids H :: pts b9 nd0 42 :: pts b6 nd0 42 :: OwT 79 (T.map tkC) vl :: L) w
         | none => Kn [] 131 a [(0, vl), (1, .int .i64 (a2 : Int)), (2, .int .i64 (op : Int)), (6, .pointer (some ⟨b6, 0, none⟩)), (9, .pointer (some ⟨b9, 0, none⟩)), (14, .bool false)] ∧ St B (pts b9 nd0 42 :: pts b6 nd0 42 :: OwT 79 (T.map tkC) vl :: L) w)
         (fun _ _ => False) hk (by kernel_rfl) ?_ ?_ ?_
        ·intro a w hK
         (repeat (first | refine q_then ?_ | refine q_inN ?_))
         cases it with
         | none =>
          obtain ⟨hk, hS⟩ := hK
          (repeat' (first|((first|refine wx1 ?_|refine wx2 ?_ ?_<;>intro hp|refine s_end hk ?_)<;>(clear hk a;intro a hk))|((first|refine wx3 ?_;intro w b|refine wx4 ?_;intro w|refine wx5 ?_;intro w v);clear hk hS a;intro hS a hk)|refine wx0 ?_|fail))
          refine done3R hk rfl (.str hS (hT := aT rfl) (hs := zT rfl)) (.tmp rfl) (.tmp rfl) (h := ?_)
          rw [← hR]
          exact ⟨a2, ge, rfl, by rw [hT];exact hg3, rfl, by decide, by rw [hT];exact hS.sub (.cons atx sbx)⟩
         | some y =>
          obtain ⟨⟨k', tag', key', cl', al', sl', ⟨e', lv', mo', d', p1', p2'⟩⟩, more⟩ := y
          obtain ⟨hc', ha', hs', vs', b12, hk, hS⟩ := hK
          simp only at hS hR
          obtain ⟨il1, il2, il3⟩ := item_len hit
          have il4 := item_seen hit
          simp only at il1 il2 il3
          (repeat' (first|((first|refine wx1 ?_|refine wx2 ?_ ?_<;>intro hp|refine s_end hk ?_)<;>(clear hk a;intro a hk))|((first|refine wx3 ?_;intro w b|refine wx4 ?_;intro w|refine wx5 ?_;intro w v);clear hk hS a;intro hS a hk)|refine wx0 ?_|fail))
          rw [show ((a2 : Int) + 1) = ((a2 + 1 : Nat) : Int) by omega] at hk
          exact ⟨⟨ge.till, m2, a2 + 1, ⟨k', tag', key', cl', al', sl', (e', lv', mo', d', p1', p2')⟩, more, kids, H, hc', ha', hs', hh, vs'⟩, by show s.size - ge.till < s.size - i2;omega, hk.sd, hS.sub (.cons atx (.cons atx (.cons atx (.cons atx (.cons atx (.cons atx (.cons atx (.cons atx (.cons atx (.cons atx sbx)))))))))), hR, hn4, by show 2 * (s.size - ge.till) + 3 ≤ m2;omega, by show m2 ≤ m;omega, htl3 (by omega) (by omega),
           by show cl'.length ≤ ge.till;omega, by show al'.length ≤ ge.till;omega, by show sl'.length ≤ ge.till;omega, by show kids.length ≤ ge.till;omega, by show more.length ≤ ge.till;omega⟩
        ·intro ch a w _ h;exact h.elim
        ·replace hS := hS.drew
         generalize w.drew = w at hS
         refine an_take (i := 1) (k := 15) rfl hk (by kernel_rfl) (by kernel_rfl) (by kernel_rfl) (y_move hk rfl) (fun _ => rfl) rfl (fun a hk => ?_) rfl
         refine an_take (i := 2) (k := 14) rfl hk (by kernel_rfl) (by kernel_rfl) (by kernel_rfl) (y_move hk rfl) (fun _ => rfl) rfl (fun a hk => ?_) rfl
         refine an_take (i := 6) (k := 13) rfl hk (by kernel_rfl) (by kernel_rfl) (by kernel_rfl) (y_move hk rfl) (fun _ => rfl) rfl (fun a hk => ?_) rfl
         have hsl0 : SlT (T.map tkC) vl w := (by first | exact St.rdT hS (by assumption) | exact OwT.rd (hS.rd (A := OwT _ _ _) atx) | assumption)
         refine an_take (i := 3) (k := 12) rfl hk (by kernel_rfl) (by kernel_rfl) (by kernel_rfl) (y_ixT (i := a2) hk hsl0 (by omega) (eT rfl) (zT rfl) rfl rfl) (fun _ => rfl) rfl (fun a hk => ?_) rfl
         refine an_take (i := 4) (k := 11) rfl hk (by kernel_rfl) (by kernel_rfl) (by kernel_rfl) (y_field hk (fT rfl) rfl) (fun _ => rfl) rfl (fun a hk => ?_) rfl
         clear hsl0
         try clear ih htl htt hw2 htl3 htt3 hw3' htl2 htt2 hdr hg hgm hdr2 hg2 hgm2
         refine an_cut (fun a w => ∃ (m : Itm) (hc' ha' hs' : Hd) (vs' : Value) (ok : Bool) (b12 : Nat), Kn [] 131 a [(0, vl), (1, .int .i64 (a2 : Int)), (2, .int .i64 (op : Int)), (6, .pointer (some ⟨b6, 0, none⟩)), (9, .pointer (some ⟨b9, 0, none⟩)), (10, .pointer (some ⟨b10, 0, none⟩)), (12, .pointer (some ⟨b12, 0, none⟩)), (94, .agg (ndC m.k m.tag m.key hc' ha' hs' m.o hh).toArray), (95, vs'), (96, .bool ok)] ∧ ItS B (pts b12 nd0 42 :: pts b10 (ndC k tag key hc ha hss (e, lv, mo, d, p1, p2) hh) 42 :: OwT 42 H hh.v :: forR kids H :: pts b9 nd0 42 :: pts b6 nd0 42 :: OwT 79 (T.map tkC) vl :: L) it m hc' ha' hs' vs' ok w) 3 #[true, true, true, true, true, true, true, true, true, true, true, true, true, false, false, false] (fun a w hJ => ?_) (fun hC => ?_)
         ·clear hk hS
          obtain ⟨m, hc', ha', hs', vs', ok, b12, hk, hI⟩ := hJ
          refine an_step (i := 13) (rs := []) (by kernel_rfl) ?_
          intro jx hjx
          simp only [List.mem_cons, List.not_mem_nil, or_false] at hjx
          subst hjx
          cases it with
          | none =>
           obtain ⟨rfl, hS⟩ := hI
           refine an_opu (i := 13) rfl hk (g_store hk hS (fun w hS a hk => ?_) (hsz := zT rfl))
           refine an_take (i := 14) (k := 1) rfl hk (by kernel_rfl) (by kernel_rfl) (by kernel_rfl) (y_assign hk rfl) (fun _ => rfl) rfl (fun a hk => ?_) rfl
           refine an_take (i := 15) (k := 0) rfl hk (by kernel_rfl) (by kernel_rfl) (by kernel_rfl) (y_assign hk rfl) (fun _ => rfl) rfl (fun a hk => ?_) rfl
           exact an_end (by kernel_rfl) (QX.normal ⟨hk.sub skx, hS.sub (.cons atx (.cons atx (.cons atx sbx)))⟩)
          | some y =>
           obtain ⟨mm, more⟩ := y
           obtain ⟨rfl, rfl, hS⟩ := hI
           refine an_opu (i := 13) rfl hk (g_store hk hS (fun w hS a hk => ?_) (hsz := zT rfl))
           refine an_take (i := 14) (k := 1) rfl hk (by kernel_rfl) (by kernel_rfl) (by kernel_rfl) (y_assign hk rfl) (fun _ => rfl) rfl (fun a hk => ?_) rfl
           refine an_take (i := 15) (k := 0) rfl hk (by kernel_rfl) (by kernel_rfl) (by kernel_rfl) (y_assign hk rfl) (fun _ => rfl) rfl (fun a hk => ?_) rfl
           exact an_end (by kernel_rfl) (QX.normal ⟨hc', ha', hs', vs', b12, hk.sub skx, hS.sub (by (repeat (first | exact Sub.nil | exact Sub.refl | refine Sub.cons atx ?_)))⟩)
         refine an_cut (fun a w => ∃ b12 : Nat, Kn [] 131 a [(0, vl), (1, .int .i64 (a2 : Int)), (2, .int .i64 (op : Int)), (6, .pointer (some ⟨b6, 0, none⟩)), (9, .pointer (some ⟨b9, 0, none⟩)), (10, .pointer (some ⟨b10, 0, none⟩)), (12, .pointer (some ⟨b12, 0, none⟩)), (86, .agg (ndC k tag key hc ha hss (e, lv, mo, d, p1, p2) hh).toArray), (91, .string ge.txt), (92, vs)] ∧ St B (OwT 9 cl hc.v :: OwT 109 al ha.v :: OwT 135 sl hss.v :: OwT 9 seen vs :: pts b12 nd0 42 :: pts b10 (ndC k tag key hc ha hss (e, lv, mo, d, p1, p2) hh) 42 :: OwT 42 H hh.v :: forR kids H :: pts b9 nd0 42 :: pts b6 nd0 42 :: OwT 79 (T.map tkC) vl :: L) w) 8 #[true, true, true, true, true, true, true, false, false, false, false, false, true, false, false, false] (fun a w hJ => ?_) (fun hB => ?_)
         ·clear hk hS
          obtain ⟨b12, hk, hS⟩ := hJ
          refine an_step (i := 7) (rs := []) (by kernel_rfl) ?_
          intro jx hjx
          simp only [List.mem_cons, List.not_mem_nil, or_false] at hjx
          subst hjx
          refine an_op (i := 7) rfl hk (g_callO hk (hf := by kernel_rfl) (hc := item8_any (L := pts b12 nd0 42 :: pts b10 (ndC k tag key hc ha hss (e, lv, mo, d, p1, p2) hh) 42 :: OwT 42 H hh.v :: forR kids H :: pts b9 nd0 42 :: pts b6 nd0 42 :: OwT 79 (T.map tkC) vl :: L) k tag key cl al sl hc ha hss hh (e, lv, mo, d, p1, p2) ge.txt seen vs hw5 (by omega) (by omega) (by omega) (by omega) (by omega) ht (hS.sub (by (repeat (first | exact Sub.nil | exact Sub.refl | refine Sub.cons atx ?_))))) (h := fun vr w hS a hk => ?_)) rfl
          rw [hit] at hS
          obtain ⟨m, hc', ha', hs', vs', ok, rfl, hI⟩ := ItR.flat hS
          clear hS
          refine an_take (i := 8) (k := 6) rfl hk (by kernel_rfl) (by kernel_rfl) (by kernel_rfl) (y_move hk rfl) (fun _ => rfl) rfl (fun a hk => ?_) rfl
          refine an_take (i := 9) (k := 5) rfl hk (by kernel_rfl) (by kernel_rfl) (by kernel_rfl) (y_ext hk rfl rfl) (fun _ => rfl) rfl (fun a hk => ?_) rfl
          refine an_take (i := 10) (k := 4) rfl hk (by kernel_rfl) (by kernel_rfl) (by kernel_rfl) (y_ext hk rfl rfl) (fun _ => rfl) rfl (fun a hk => ?_) rfl
          refine an_take (i := 11) (k := 3) rfl hk (by kernel_rfl) (by kernel_rfl) (by kernel_rfl) (y_ext hk rfl rfl) (fun _ => rfl) rfl (fun a hk => ?_) rfl
          exact an_at (hC a w ⟨m, hc', ha', hs', vs', ok, b12, hk.sub skx, hI⟩) (by kernel_rfl)
         refine an_cut (fun a w => Kn [] 131 a [(0, vl), (1, .int .i64 (a2 : Int)), (2, .int .i64 (op : Int)), (6, .pointer (some ⟨b6, 0, none⟩)), (9, .pointer (some ⟨b9, 0, none⟩)), (10, .pointer (some ⟨b10, 0, none⟩)), (86, .agg (ndC k tag key hc ha hss (e, lv, mo, d, p1, p2) hh).toArray), (91, .string ge.txt), (92, vs)] ∧ St B (OwT 9 cl hc.v :: OwT 109 al ha.v :: OwT 135 sl hss.v :: OwT 9 seen vs :: pts b10 (ndC k tag key hc ha hss (e, lv, mo, d, p1, p2) hh) 42 :: OwT 42 H hh.v :: forR kids H :: pts b9 nd0 42 :: pts b6 nd0 42 :: OwT 79 (T.map tkC) vl :: L) w) 9 #[true, true, true, true, true, true, true, false, false, false, false, false, false, false, false, false] (fun a w hJ => ?_) (fun hA => ?_)
         ·clear hk hS
          obtain ⟨hk, hS⟩ := hJ
          refine an_step (i := 7) (rs := [12]) (by kernel_rfl) ?_
          intro jx hjx
          simp only [List.mem_cons, List.not_mem_nil, or_false] at hjx
          rcases hjx with rfl | rfl
          ·refine an_op (i := 7) rfl hk (g_callO hk (hf := by kernel_rfl) (hc := item8_any (L := pts b10 (ndC k tag key hc ha hss (e, lv, mo, d, p1, p2) hh) 42 :: OwT 42 H hh.v :: forR kids H :: pts b9 nd0 42 :: pts b6 nd0 42 :: OwT 79 (T.map tkC) vl :: L) k tag key cl al sl hc ha hss hh (e, lv, mo, d, p1, p2) ge.txt seen vs hw5 (by omega) (by omega) (by omega) (by omega) (by omega) ht (hS.sub (by (repeat (first | exact Sub.nil | exact Sub.refl | refine Sub.cons atx ?_))))) (h := fun vr w hS a hk => ?_)) rfl
           rw [hit] at hS
           obtain ⟨m, hc', ha', hs', vs', ok, rfl, hI⟩ := ItR.flat hS
           clear hS
           refine an_take (i := 8) (k := 7) rfl hk (by kernel_rfl) (by kernel_rfl) (by kernel_rfl) (y_move hk rfl) (fun _ => rfl) rfl (fun a hk => ?_) rfl
           refine an_take (i := 9) (k := 6) rfl hk (by kernel_rfl) (by kernel_rfl) (by kernel_rfl) (y_ext hk rfl rfl) (fun _ => rfl) rfl (fun a hk => ?_) rfl
           refine an_take (i := 10) (k := 5) rfl hk (by kernel_rfl) (by kernel_rfl) (by kernel_rfl) (y_ext hk rfl rfl) (fun _ => rfl) rfl (fun a hk => ?_) rfl
           refine an_take (i := 11) (k := 4) rfl hk (by kernel_rfl) (by kernel_rfl) (by kernel_rfl) (y_ext hk rfl rfl) (fun _ => rfl) rfl (fun a hk => ?_) rfl
           refine an_step (i := 12) (rs := []) (by kernel_rfl) ?_
           intro jx hjx
           simp only [List.mem_cons, List.not_mem_nil, or_false] at hjx
           subst hjx
           cases it with
           | none =>
            obtain ⟨rfl, hS⟩ := hI
            refine an_op (i := 12) rfl hk (g_alloc hk hS (fun w b12 hS a hk => ?_) (oT rfl)) rfl
            exact an_at (hC a w ⟨m, hc', ha', hs', vs', false, b12, hk.sub skx, rfl, hS.sub (by (repeat (first | exact Sub.nil | exact Sub.refl | refine Sub.cons atx ?_)))⟩) (by kernel_rfl)
           | some y =>
            obtain ⟨mm, more⟩ := y
            obtain ⟨rfl, rfl, hS⟩ := hI
            refine an_op (i := 12) rfl hk (g_alloc hk hS (fun w b12 hS a hk => ?_) (oT rfl)) rfl
            exact an_at (hC a w ⟨m, hc', ha', hs', vs', true, b12, hk.sub skx, rfl, rfl, hS.sub (by (repeat (first | exact Sub.nil | exact Sub.refl | refine Sub.cons atx ?_)))⟩) (by kernel_rfl)
          ·refine an_op (i := 12) rfl hk (g_alloc hk hS (fun w b12 hS a hk => ?_) (oT rfl)) rfl
           exact an_at (hB a w ⟨b12, hk.sub skx, hS.sub (by (repeat (first | exact Sub.nil | exact Sub.refl | refine Sub.cons atx ?_)))⟩) (by kernel_rfl)
         refine an_step (i := 0) (rs := [5, 12]) (by kernel_rfl) ?_
         intro jx hjx
         simp only [List.mem_cons, List.not_mem_nil, or_false] at hjx
         rcases hjx with rfl | rfl | rfl
         ·refine an_op (i := 0) rfl hk (g_ownN hk hS (fun a hk => ?_) (aT rfl) (zT rfl)) rfl
          refine an_step (i := 5) (rs := [12]) (by kernel_rfl) ?_
          intro jx hjx
          simp only [List.mem_cons, List.not_mem_nil, or_false] at hjx
          rcases hjx with rfl | rfl
          ·refine an_op (i := 5) rfl hk (g_ldTF (i := a2) (e := tkC ge) hk (fun a hk => ?_) (aT rfl) rfl (by first | exact St.rdT hS (by assumption) | exact OwT.rd (hS.rd (A := OwT _ _ _) atx) | assumption) hgm3 rfl) rfl
           exact an_at (hA a w ⟨hk.sub skx, hS.sub (by (repeat (first | exact Sub.nil | exact Sub.refl | refine Sub.cons atx ?_)))⟩) (by kernel_rfl)
          ·refine an_op (i := 12) rfl hk (g_alloc hk hS (fun w b12 hS a hk => ?_) (oT rfl)) rfl
           refine an_step (i := 5) (rs := []) (by kernel_rfl) ?_
           intro jx hjx
           simp only [List.mem_cons, List.not_mem_nil, or_false] at hjx
           subst hjx
           refine an_op (i := 5) rfl hk (g_ldTF (i := a2) (e := tkC ge) hk (fun a hk => ?_) (aT rfl) rfl (by first | exact St.rdT hS (by assumption) | exact OwT.rd (hS.rd (A := OwT _ _ _) atx) | assumption) hgm3 rfl) rfl
           exact an_at (hB a w ⟨b12, hk.sub skx, hS.sub (by (repeat (first | exact Sub.nil | exact Sub.refl | refine Sub.cons atx ?_)))⟩) (by kernel_rfl)
         ·refine an_op (i := 5) rfl hk (g_ldTF (i := a2) (e := tkC ge) hk (fun a hk => ?_) (aT rfl) rfl (by first | exact St.rdT hS (by assumption) | exact OwT.rd (hS.rd (A := OwT _ _ _) atx) | assumption) hgm3 rfl) rfl
          refine an_step (i := 0) (rs := [12]) (by kernel_rfl) ?_
          intro jx hjx
          simp only [List.mem_cons, List.not_mem_nil, or_false] at hjx
          rcases hjx with rfl | rfl
          ·refine an_op (i := 0) rfl hk (g_ownN hk hS (fun a hk => ?_) (aT rfl) (zT rfl)) rfl
           exact an_at (hA a w ⟨hk.sub skx, hS.sub (by (repeat (first | exact Sub.nil | exact Sub.refl | refine Sub.cons atx ?_)))⟩) (by kernel_rfl)
          ·refine an_op (i := 12) rfl hk (g_alloc hk hS (fun w b12 hS a hk => ?_) (oT rfl)) rfl
           refine an_step (i := 0) (rs := []) (by kernel_rfl) ?_
           intro jx hjx
           simp only [List.mem_cons, List.not_mem_nil, or_false] at hjx
           subst hjx
           refine an_op (i := 0) rfl hk (g_ownN hk hS (fun a hk => ?_) (aT rfl) (zT rfl)) rfl
           exact an_at (hB a w ⟨b12, hk.sub skx, hS.sub (by (repeat (first | exact Sub.nil | exact Sub.refl | refine Sub.cons atx ?_)))⟩) (by kernel_rfl)
         ·refine an_op (i := 12) rfl hk (g_alloc hk hS (fun w b12 hS a hk => ?_) (oT rfl)) rfl
          refine an_step (i := 0) (rs := [5]) (by kernel_rfl) ?_
          intro jx hjx
          simp only [List.mem_cons, List.not_mem_nil, or_false] at hjx
          rcases hjx with rfl | rfl
          ·refine an_op (i := 0) rfl hk (g_ownN hk hS (fun a hk => ?_) (aT rfl) (zT rfl)) rfl
           refine an_step (i := 5) (rs := []) (by kernel_rfl) ?_
           intro jx hjx
           simp only [List.mem_cons, List.not_mem_nil, or_false] at hjx
           subst hjx
           refine an_op (i := 5) rfl hk (g_ldTF (i := a2) (e := tkC ge) hk (fun a hk => ?_) (aT rfl) rfl (by first | exact St.rdT hS (by assumption) | exact OwT.rd (hS.rd (A := OwT _ _ _) atx) | assumption) hgm3 rfl) rfl
           exact an_at (hB a w ⟨b12, hk.sub skx, hS.sub (by (repeat (first | exact Sub.nil | exact Sub.refl | refine Sub.cons atx ?_)))⟩) (by kernel_rfl)
          ·refine an_op (i := 5) rfl hk (g_ldTF (i := a2) (e := tkC ge) hk (fun a hk => ?_) (aT rfl) rfl (by first | exact St.rdT hS (by assumption) | exact OwT.rd (hS.rd (A := OwT _ _ _) atx) | assumption) hgm3 rfl) rfl
           refine an_step (i := 0) (rs := []) (by kernel_rfl) ?_
           intro jx hjx
           simp only [List.mem_cons, List.not_mem_nil, or_false] at hjx
           subst hjx
           refine an_op (i := 0) rfl hk (g_ownN hk hS (fun a hk => ?_) (aT rfl) (zT rfl)) rfl
           exact an_at (hB a w ⟨b12, hk.sub skx, hS.sub (by (repeat (first | exact Sub.nil | exact Sub.refl | refine Sub.cons atx ?_)))⟩) (by kernel_rfl)
       ·rw [if_neg c4] at hR
        have ih2 := ih m2 (by omega) i2 (op + 1) a2
        rw [hT] at ih2
        (repeat' (first|((first|refine wx1 ?_|refine wx2 ?_ ?_<;>intro hp|refine s_end hk ?_)<;>(clear hk a;intro a hk))|((first|refine wx3 ?_;intro w b|refine wx4 ?_;intro w|refine wx5 ?_;intro w v);clear hk hS a;intro hS a hk)|refine wx0 ?_|fail))
        rw [show ((op : Int) + 1) = ((op + 1 : Nat) : Int) by omega] at hk
        refine sg hk (g_callO hk (hf := by kernel_rfl) (hc := ih2 _ _ _ hi2 (by omega) (by omega) hdr3 ht (hS.sub (.cons atx .refl))) (h := ?_));clear hk hS a;intro vr w hS a hk
        cases hv : viewF s m2 i2 (op + 1) with
        | no p e0 =>
         rw [hv] at hS hR
         obtain ⟨a3, tk, rfl, ht3, hp3, he3, hS⟩ := hS
         rw [hT] at ht3 hS
         (repeat' (first|((first|refine wx1 ?_|refine wx2 ?_ ?_<;>intro hp|refine s_end hk ?_)<;>(clear hk a;intro a hk))|((first|refine wx3 ?_;intro w b|refine wx4 ?_;intro w|refine wx5 ?_;intro w v);clear hk hS a;intro hS a hk)|refine wx0 ?_|fail))
         refine done3R hk rfl (.str hS (hT := aT rfl) (hs := zT rfl)) (.tmp rfl) (.tmp rfl) (h := ?_)
         rw [← hR]
         exact ⟨a3, tk, rfl, by rw [hT];exact ht3, hp3, he3, by rw [hT];exact hS.sub (.cons atx sbx)⟩
        | ok t3 j =>
         rw [hv] at hS hR
         obtain ⟨u, a3, rfl, hd3, hS⟩ := hS
         rw [hT] at hd3 hS
         obtain ⟨⟨k2, tag2, key2, text2, ⟨x12, x22, x32⟩, ⟨y12, y22, y32⟩, ⟨z12, z22, z32⟩, ⟨e2, lv2, mm2, d2, pp2, qq2⟩, ⟨u12, u22, u32⟩⟩, rfl, hS1⟩ := St.tree hS .here
         clear hS
         have hS := hS1
         clear hS1
         simp only at hR
         obtain ⟨hj1, hj2⟩ := (view_pos s m2).1 _ _ _ _ hv
         (repeat' (first|((first|refine wx1 ?_|refine wx2 ?_ ?_<;>intro hp|refine s_end hk ?_)<;>(clear hk a;intro a hk))|((first|refine wx3 ?_;intro w b|refine wx4 ?_;intro w|refine wx5 ?_;intro w v);clear hk hS a;intro hS a hk)|refine wx0 ?_|fail))
         have hHl := (hS.foR (ts := kids) (H := H) atx).1
         refine wp_drawn 7 mixed (by kernel_rfl) hk hS ?_;clear hk hS a
         refine' obe_res (fun us a w hk hd hS => ?_) ?_;rotate_left;focus (have hk := Kn.vw hk vwx;exact v_bs0 (hT := eT rfl) (hE := zT rfl))
         (repeat' (first|(show ObxE _ _ _ _ _ _ _ _ _ (_::_) _ _ _;first|refine ox1 ?_|refine ox2 ?_ ?_<;>intro hp)|fail))
         refine' obe_lnd 6 (p := fun _ => True) (V := appH 42 H) (fun us a w hk hd hS => ?_) ?_
         ·have hk := Kn.vw hk vwx
          exact (v_appR (ys := H) hk hd.1 (hT := eT rfl) (hTx := eT rfl) (hE := zT rfl) (hz := oT rfl) (hzs := rfl) (hs := (by first | exact St.rdT hS (by assumption) | exact OwT.rd (hS.rd (A := OwT _ _ _) atx) | assumption)) (hby := bT rfl) (hbytes := by omega) (h63 := by simp only [maxLen];omega)).mono (fun _ _ h => St.tru h)
         (repeat' (first|(show ObxE _ _ _ _ _ _ _ _ _ (_::_) _ _ _;first|refine ox1 ?_|refine ox2 ?_ ?_<;>intro hp)|fail))
         refine' obe_res (fun us a w hk hd hS => ?_) ?_;rotate_left;focus (have hk := Kn.vw hk vwx;exact v_bsT (xs := [((k2, tag2, key2, text2, ⟨x12, x22, x32⟩, ⟨y12, y22, y32⟩, ⟨z12, z22, z32⟩, (e2, lv2, mm2, d2, pp2, qq2), ⟨u12, u22, u32⟩) : NdH)]) (m := 0) hk (hT := eT rfl) (hE := zT rfl) (hz := oT rfl))
         refine' obe_tak 122 3 (V := appH 42 (H ++ [((k2, tag2, key2, text2, ⟨x12, x22, x32⟩, ⟨y12, y22, y32⟩, ⟨z12, z22, z32⟩, (e2, lv2, mm2, d2, pp2, qq2), ⟨u12, u22, u32⟩) : NdH)])) (fun us a w X hk hd hS hL => ?_) ?_
         ·have hk := Kn.vw hk vwx
          exact v_app2 hk hS (hT := eT rfl) (hTx := eT rfl) (hE := zT rfl) (hz := oT rfl) (hzs := rfl) (hs := OwT.rd hd.2.1) (hby := bT rfl) (hbytes := by simp only [List.length_cons, List.length_nil];omega) (h63 := by simp only [List.length_cons, List.length_nil, maxLen];omega)
         refine obe_nil ⟨rfl, ?_⟩;intro us a w hk hS
         simp only [resE, List.cons_append, List.nil_append, Nat.zero_add, Nat.reduceAdd] at hS
         replace hk := Kn.kp [0, 1, 2, 6, 9, 10, 11, 16, 125] hk
         simp only [HV.of, Nat.zero_add, Nat.reduceAdd] at hk
         rename Nat → Value => us
         generalize us 6 = v125 at hS hk
         rw [appH_ne] at hS
         obtain ⟨aov125, cv125, hshp, _⟩ := (OwT.rd (hS.rd (A := OwT 42 _ v125) atx)).shape;subst hshp
         (repeat' (first|((first|refine wx1 ?_|refine wx2 ?_ ?_<;>intro hp|refine s_end hk ?_)<;>(clear hk a;intro a hk))|((first|refine wx3 ?_;intro w b|refine wx4 ?_;intro w|refine wx5 ?_;intro w v);clear hk hS a;intro hS a hk)|refine wx0 ?_|fail))
         have hS1 := forR.snoc (ts := kids) (H := H) (t := t3) (h := ((k2, tag2, key2, text2, ⟨x12, x22, x32⟩, ⟨y12, y22, y32⟩, ⟨z12, z22, z32⟩, (e2, lv2, mm2, d2, pp2, qq2), ⟨u12, u22, u32⟩) : NdH)) (hS.sub (.cons atx (.cons atx sbx)))
         exact ⟨⟨j, m2, a3, ⟨k, tag, key, cl, al, sl, (e, lv, mo, d, p1, p2)⟩, seen, kids ++ [t3], H ++ [((k2, tag2, key2, text2, ⟨x12, x22, x32⟩, ⟨y12, y22, y32⟩, ⟨z12, z22, z32⟩, (e2, lv2, mm2, d2, pp2, qq2), ⟨u12, u22, u32⟩) : NdH)], hc, ha, hss, ⟨aov125, (H ++ [((k2, tag2, key2, text2, ⟨x12, x22, x32⟩, ⟨y12, y22, y32⟩, ⟨z12, z22, z32⟩, (e2, lv2, mm2, d2, pp2, qq2), ⟨u12, u22, u32⟩) : NdH)]).length, cv125⟩, vs⟩, by show s.size - j < s.size - i2;omega, hk.sd, hS1.sub (.cons atx (.cons atx (.cons atx (.cons atx (.cons atx (.cons atx (.cons atx (.cons atx (.cons atx (.cons atx sbx)))))))))), hR, hj2, by show 2 * (s.size - j) + 3 ≤ m2;omega, by show m2 ≤ m;omega, hd3,
          by show cl.length ≤ j;omega, by show al.length ≤ j;omega, by show sl.length ≤ j;omega, by show (kids ++ [t3]).length ≤ j;rw [List.length_append, List.length_cons, List.length_nil];omega, by show seen.length ≤ j;omega⟩
    ·rw [if_neg (fun h => k4 h.1)] at hR
     (repeat' (first|((first|refine wx1 ?_|refine wx2 ?_ ?_<;>intro hp|refine s_end hk ?_)<;>(clear hk a;intro a hk))|((first|refine wx3 ?_;intro w b|refine wx4 ?_;intro w|refine wx5 ?_;intro w v);clear hk hS a;intro hS a hk)|refine wx0 ?_|fail))
     refine done3R hk rfl (.str hS (hT := aT rfl) (hs := zT rfl)) (.tmp rfl) (.tmp rfl) (h := ?_)
     rw [hR]
     exact ⟨a0 + 1, g2, rfl, by rw [hT];exact hg2, rfl, by decide, by rw [hT];exact hS.sub (.cons atx sbx)⟩
  ·rw [if_neg k1] at hR
   (repeat' (first|((first|refine wx1 ?_|refine wx2 ?_ ?_<;>intro hp|refine s_end hk ?_)<;>(clear hk a;intro a hk))|((first|refine wx3 ?_;intro w b|refine wx4 ?_;intro w|refine wx5 ?_;intro w v);clear hk hS a;intro hS a hk)|refine wx0 ?_|fail))
   refine done3R hk rfl (.str hS (hT := aT rfl) (hs := zT rfl)) (.tmp rfl) (.tmp rfl) (h := ?_)
   rw [hR]
   exact ⟨a0, g, rfl, by rw [hT];exact hg, rfl, by decide, by rw [hT];exact hS.sub (.cons atx sbx)⟩
end
end Go.Proofs.YtnjmonkehjlaoaaGreatDoor
namespace Go.Proofs.YtnjmonkehjlaoaaGreatDoor
open Go.RowKit
theorem St.cutT {α : Type} [Enc α] {B : Bs} {w : World} {L L' : List HP} {E : TypeId} {xs : List α} {ao : Option Addr} {c : Nat} (i : Nat) (h : St B L w) (hat : At (OwT E xs (.slice ao xs.length c)) L L') (hi : i ≤ xs.length) :
  St B (OwT E (xs.take i) (.slice (if c = 0 then ao else ao.map (·.add 0)) i c) :: L') w := by
 have hti : (xs.take i).length = i := by rw [List.length_take, Nat.min_eq_left hi]
 obtain ⟨F0, h1, h2, h3, h4⟩ := h.rd hat
 rcases h3 with ⟨hv, hn⟩ | ⟨b, off, cap, cur, hv, hF, hF', hb, hn, hc, hs, hcell⟩
 ·simp only [Value.slice.injEq] at hv
  obtain ⟨rfl, h0, rfl⟩ := hv
  have hx : xs = [] := List.length_eq_zero_iff.1 h0
  subst hx
  have hi0 : i = 0 := by simpa using hi
  subst hi0
  exact (h.sub hat.rest).nilT E α
 ·simp only [Value.slice.injEq] at hv
  obtain ⟨rfl, -, rfl⟩ := hv
  obtain ⟨vs, hS, g1, g2, g3, g4, g5⟩ := St.ownPts h hat
  have := hS.toOwn (ys := xs.take i) (off := off) (cap := c) .here (by rw [hti];omega) g3 g1 (fun j u hj => by
   refine g5 j u ?_
   rw [← enc_take, List.getElem?_take] at hj
   split at hj
   ·exact hj
   ·cases hj)
  rw [hti] at this
  have e : (if c = 0 then some (⟨b, off, none⟩ : Addr) else (some (⟨b, off, none⟩ : Addr)).map (·.add 0)) = some ⟨b, off, none⟩ := by split <;> rfl
  rw [e]
  exact this
theorem SlT.cap {α : Type} [Enc α] {w : World} {xs : List α} {ao : Option Addr} {n c : Nat} (h : SlT xs (.slice ao n c) w) : xs.length ≤ c := by
 obtain ⟨ao', c', e, -, h2, -⟩ := h.shape
 simp only [Value.slice.injEq] at e
 obtain ⟨-, -, rfl⟩ := e
 exact h2
theorem SlT.dropS {α : Type} [Enc α] {w : World} {xs : List α} {ao : Option Addr} {c : Nat} (i : Nat) (h : SlT xs (.slice ao xs.length c) w) (hi : i ≤ xs.length) :
  SlT (xs.drop i) (.slice (if c = i then ao else ao.map (·.add (i * (Enc.k α + 1)))) (xs.length - i) (c - i)) w := by
 obtain ⟨ao', c', e, h2⟩ := h.part hi (Nat.le_refl _)
 simp only [Value.slice.injEq] at e
 obtain ⟨rfl, -, rfl⟩ := e
 rw [List.take_length] at h2
 exact h2
section
variable {P : Program} {a : Act} {w : World} {n : Nat} {l : List (Nat × Value)} {df : List Deferred}
 {dst : Option Nat} {ty : TypeId} {pos : String} {af : Array Edge} {g : Option (Nat × Bool)} {R : Value → World → Prop}
end
end Go.Proofs.YtnjmonkehjlaoaaGreatDoor
namespace Go.Proofs.YtnjmonkehjlaoaaGreatDoor
open Go.RowKit
inductive NdA : Tree → Prop
 | mk {k : Int} {tag key text : ByteArray} {cl : List ByteArray} {al : List PrS} {sl : List PrI} {o : Opt} {kids : List Tree} (h1 : (al.map nmS).Nodup) (h2 : ∀ t ∈ kids, NdA t) : NdA (.mk k tag key text cl al sl o kids)
def SeenA (al : List PrS) (seen : List ByteArray) : Prop := (al.map nmS).Nodup ∧ ∀ x ∈ al, (⟨#[64]⟩ : ByteArray) ++ x.1 ∈ seen
theorem seenA_nil (seen : List ByteArray) : SeenA [] seen := ⟨List.nodup_nil, fun x h => by cases h⟩
theorem some_al {n m x : Itm} (h : some x = some m) (hx : x.al = n.al) : m.al = n.al := by injection h with h; subst h; exact hx
theorem ite_al {n m x : Itm} {p : Prop} [Decidable p] {r : Option Itm} (h : (if p then some x else r) = some m) (hx : x.al = n.al) (hr : r = some m → m.al = n.al) : m.al = n.al := by
 by_cases hp : p
 ·rw [if_pos hp] at h;exact some_al h hx
 ·rw [if_neg hp] at h;exact hr h
theorem add_al {n m : Itm} {w : ByteArray} (h : addF n w = some m) (h64 : ∀ h0 : 0 < w.size, w[0].toNat ≠ 64) : m.al = n.al := by
 have no : (none : Option Itm) = some m → m.al = n.al := fun h => by cases h
 have hz : w.data.toList.length = w.size := by simp
 unfold addF at h
 cases hw : w.data.toList with
 | nil => rw [hw] at h;cases h
 | cons c q =>
  have h0 : 0 < w.size := by rw [← hz, hw];simp
  have hc : w[0] = c := by have := drop_cons h0;rw [List.drop_zero, hw] at this;injection this with e _;exact e.symm
  have h64' : c.toNat ≠ 64 := by rw [← hc];exact h64 h0
  rw [hw] at h
  simp only at h
  by_cases h35 : c.toNat = 35
  ·rw [if_pos h35] at h;exact ite_al h rfl no
  ·rw [if_neg h35] at h
   by_cases h46 : c.toNat = 46
   ·rw [if_pos h46] at h;exact ite_al h rfl no
   ·rw [if_neg h46, if_neg h64'] at h
    by_cases h33 : c.toNat = 33
    ·rw [if_pos h33] at h
     refine ite_al h rfl (fun h => ite_al h rfl (fun h => ite_al h rfl (fun h => ite_al h rfl (fun h => ite_al h rfl (fun h => ite_al h rfl (fun h => ?_))))))
     cases hc : cutE w with
     | none => rw [hc] at h;cases h
     | some y =>
      obtain ⟨a, v⟩ := y
      rw [hc] at h
      simp only at h
      by_cases hk : (numP v.data.toList).2 = true
      ·rw [if_pos hk] at h
       exact ite_al h rfl (fun h => ite_al h rfl (fun h => ite_al h rfl no))
      ·rw [if_neg hk] at h;cases h
    ·rw [if_neg h33] at h
     cases hc : cutE w with
     | none => rw [hc] at h;cases h
     | some y => obtain ⟨a, v⟩ := y;rw [hc] at h;exact ite_al h rfl no
theorem item_seenA {n m : Itm} {w : ByteArray} {seen more : List ByteArray} (h : itemF n w seen = some (m, more)) (h0 : SeenA n.al seen) : SeenA m.al more := by
 obtain ⟨hn, hs⟩ := h0
 have hsub : ∀ x ∈ seen, x ∈ more := by
  intro x hx
  unfold itemF at h
  cases ha : addF n w with
  | none => rw [ha] at h;cases h
  | some y =>
   rw [ha] at h
   simp only at h
   cases hw : whatF w with
   | none => rw [hw] at h;injection h with h;injection h with _ h;subst h;exact hx
   | some z =>
    rw [hw] at h
    simp only at h
    split at h
    ·cases h
    ·injection h with h;injection h with _ h;subst h;exact List.mem_append_left _ hx
 by_cases h64 : ∃ hw0 : 0 < w.size, w[0].toNat = 64
 ·obtain ⟨hw0, hc⟩ := h64
  obtain ⟨r, hr⟩ := hd_of (c := 64) hw0 hc
  have hcut := cut_cons hr (by decide)
  have hwh := what64 hw0 hc
  have had := add64 (n := n) hw0 hc
  unfold itemF at h
  rw [had, hwh] at h
  rw [hcut] at h
  by_cases hp : (cutR 61 (w.extract 1 w.size)).2.2 = true ∧ nameS (cutR 61 (w.extract 1 w.size)).1 = true ∧ valS (cutR 61 (w.extract 1 w.size)).2.1 = true
  ·rw [if_pos hp] at h
   simp only at h
   split at h
   ·cases h
   ·rename_i hne
    injection h with h
    injection h with h1 h2
    subst h1 h2
    refine ⟨?_, ?_⟩
    ·show (((n.al ++ [((cutR 61 (w.extract 1 w.size)).1, (cutR 61 (w.extract 1 w.size)).2.1)]) : List PrS).map nmS).Nodup
     rw [List.map_append, List.nodup_append]
     refine ⟨hn, by simp, ?_⟩
     rintro x hx y hy rfl
     simp only [List.map_cons, List.map_nil, List.mem_singleton] at hy
     obtain ⟨q, hq, hqx⟩ := List.mem_map.1 hx
     refine hne (List.any_eq_true.2 ⟨_, hs q hq, ?_⟩)
     rw [decide_eq_true_eq]
     have : q.1 = (cutR 61 (w.extract 1 w.size)).1 := by rw [← show nmS q = q.1 from rfl, hqx, hy]
     rw [this]
    ·intro x hx
     rcases List.mem_append.1 hx with hx | hx
     ·exact List.mem_append_left _ (hs x hx)
     ·rw [List.mem_singleton] at hx;subst hx;exact List.mem_append_right _ (by simp)
  ·rw [if_neg hp] at h;cases h
 ·have hal : m.al = n.al := by
   unfold itemF at h
   cases ha : addF n w with
   | none => rw [ha] at h;cases h
   | some y =>
    have := add_al ha (fun h0 e => h64 ⟨h0, e⟩)
    rw [ha] at h
    simp only at h
    cases hw : whatF w with
    | none => rw [hw] at h;injection h with h;injection h with h _;subst h;exact this
    | some z =>
     rw [hw] at h
     simp only at h
     split at h
     ·cases h
     ·injection h with h;injection h with h _;subst h;exact this
  rw [hal]
  exact ⟨hn, fun x hx => hsub _ (hs x hx)⟩
theorem view_nda (s : ByteArray) : ∀ (f : Nat), (∀ (i op : Nat) (t : Tree) (j : Nat), viewF s f i op = .ok t j → NdA t) ∧
  (∀ (i op : Nat) (n : Itm) (seen : List ByteArray) (kids : List Tree) (t : Tree) (j : Nat), elemF s f i op n seen kids = .ok t j → SeenA n.al seen → (∀ x ∈ kids, NdA x) → NdA t)
 | 0 => ⟨(fun i op t j h => by simp only [viewF] at h;cases h), (fun i op n seen kids t j h => by simp only [elemF] at h;cases h)⟩
 | f + 1 => by
  obtain ⟨hv, he⟩ := view_nda s f
  refine ⟨fun i op t j h => ?_, fun i op n seen kids t j h h1 h5 => ?_⟩
  ·simp only [viewF] at h
   by_cases k3 : (tokF s i).kind = 3
   ·rw [if_pos k3] at h
    injection h with e1 e2
    subst e1
    exact .mk List.nodup_nil (fun x hx => by cases hx)
   ·rw [if_neg k3] at h
    by_cases k1 : (tokF s i).kind = 1
    ·rw [if_pos k1] at h
     by_cases ho : 40 ≤ op
     ·rw [if_pos ho] at h;cases h
     ·rw [if_neg ho] at h
      by_cases hg : (tokF s (tokF s i).till).kind = 4 ∧ nameS (tokF s (tokF s i).till).txt = true
      ·rw [if_pos hg] at h
       exact he _ _ _ _ _ _ _ h (seenA_nil _) (fun x hx => by cases hx)
      ·rw [if_neg hg] at h;cases h
    ·rw [if_neg k1] at h;cases h
  ·simp only [elemF] at h
   by_cases k2 : (tokF s i).kind = 2
   ·rw [if_pos k2] at h
    injection h with e1 e2
    subst e1
    exact .mk h1.1 h5
   ·rw [if_neg k2] at h
    by_cases k4 : (tokF s i).kind = 4
    ·rw [if_pos k4] at h
     cases hit : itemF n (tokF s i).txt seen with
     | none => rw [hit] at h;cases h
     | some y =>
      obtain ⟨m, more⟩ := y
      rw [hit] at h
      simp only at h
      exact he _ _ _ _ _ _ _ h (item_seenA hit h1) h5
    ·rw [if_neg k4] at h
     cases hvf : viewF s f i op with
     | ok k q =>
      rw [hvf] at h
      simp only at h
      have c1 := hv _ _ _ _ hvf
      exact he _ _ _ _ _ _ _ h h1 (fun x hx => by
       rcases List.mem_append.1 hx with hx | hx
       ·exact h5 x hx
       ·rw [List.mem_singleton] at hx;subst hx;exact c1)
     | no a e => rw [hvf] at h;cases h
theorem ins_put {l : List PrS} {e : PrS} {i : Nat} (hi : i ≤ l.length) (h1 : ∀ j (h : j < l.length), j < i → Lin.lt (nmS l[j]) (nmS e) = true) (h2 : ∀ h : i < l.length, Lin.lt (nmS l[i]) (nmS e) = false) (hn : nmS e ∉ l.map nmS) :
  insF l i e = putF nmS l e := by
 induction l generalizing i with
 | nil => simp only [List.length_nil, Nat.le_zero_eq] at hi;subst hi;rfl
 | cons x r ih =>
  have hne : ¬ nmS e = nmS x := fun h => hn (by rw [h];simp)
  cases i with
  | zero =>
   have h3 := h2 (by simp)
   have h4 : Lin.lt (nmS e) (nmS x) = true := by
    cases h5 : Lin.lt (nmS e) (nmS x) with
    | true => rfl
    | false => exact absurd (Lin.tri h5 h3) hne
   rw [putF, if_pos h4];rfl
  | succ i =>
   have h3 := h1 0 (by simp) (by omega)
   have h4 : Lin.lt (nmS e) (nmS x) = false := by
    cases h5 : Lin.lt (nmS e) (nmS x) with
    | false => rfl
    | true => have h6 := Lin.tr h5 h3;rw [Lin.irr] at h6;cases h6
   rw [putF, if_neg (by rw [h4];decide), if_neg hne, ← ih (i := i) (by simpa using hi) (fun j h hj => h1 (j + 1) (by simpa using h) (by omega)) (fun h => h2 (by simpa using h)) (fun h => hn (by simp only [List.map_cons, List.mem_cons];exact .inr h))]
   rfl
end Go.Proofs.YtnjmonkehjlaoaaGreatDoor
