/- Layer 5, the reference: lists with a number, and without; who stands below. Layer 2: what the reference says of texts. What is shown, as a tree, as it lies in memory. Layer 4's reference, and what the statements of later layers begin with. Layer 7's reference: attributes, by their names. Layer 3: lists of texts, each once. Layer 3's reference: lists of texts, each once. Layer 7: views as the program's own; views of flat nodes. Layer 7: nodes told flat, each with how deep it stands. Layer 7: views of flat nodes. -/
import Derived.Test.YtgklceoodpocaaaGreatDoorQ09
import Derived.Test.YtgklceoodpocaaaGreatDoorQ07
import Derived.Test.YtgklceoodpocaaaGreatDoorQ08
set_option linter.all false
namespace Go.Proofs.YtgklceoodpocaaaGreatDoor
open Go.RowKit
set_option maxRecDepth 100000
attribute [local irreducible] Go.Code.wpIn Go.wpListIn Go.Calls Gives Go.Exit.then Go.Exit.inBlock Done ObxE
theorem rwith5_any (l : List Int) (i : Nat) (id : Int) (v : Value) (w0 : World) (hv : SlT l v w0) (hi : i ≤ l.length) (hl : l.length ≤ 1000) :
  Calls Tryz.prog 52 #[v, .int .i64 (i : Int), .int .i64 id] w0 (Ret fun r w => St w0 [OwT 3 (insF l i id) r] w) := by
 have ht : (l.take i).length = i := by rw [List.length_take];omega
 have hd0 : (l.drop i).length = l.length - i := List.length_drop
 refine enter Tryz.func52 rfl Tryz.ntmps52 rfl (fun a hk => ?_);have hS := St.refl w0
 (repeat' (first|((first|refine wx1 ?_|refine wx2 ?_ ?_<;>intro hp|refine s_end hk ?_)<;>(clear hk a;intro a hk))|((first|refine wx3 ?_;intro w b|refine wx4 ?_;intro w|refine wx5 ?_;intro w v);clear hk hS a;intro hS a hk)|refine wx0 ?_|fail))
 refine sg hk (g_bs0 Int hS ?_ (hT := eT rfl) (hE := zT rfl));clear hk hS a;intro w v8 hS a hk
 (repeat' (first|((first|refine wx1 ?_|refine wx2 ?_ ?_<;>intro hp|refine s_end hk ?_)<;>(clear hk a;intro a hk))|((first|refine wx3 ?_;intro w b|refine wx4 ?_;intro w|refine wx5 ?_;intro w v);clear hk hS a;intro hS a hk)|refine wx0 ?_|fail))
 refine sg hk (g_partT (j := i) hk ?_ (ht := eT rfl) (hs := (by first | exact St.rdT hS (by assumption) | exact OwT.rd (hS.rd (A := OwT _ _ _) atx) | assumption)) (hE := zT rfl) (hj := by omega));clear hk a;intro vp hvp a hk
 refine sg hk (g_appT (xs := ([] : List Int)) (ys := l.take i) hk hS ?_ (hT := eT rfl) (hTx := eT rfl) (hE := zT rfl) (hz := oT rfl) (hzs := rfl) (hs := hvp _ (hS.rdT hv)) (hby := bT rfl) (hbytes := by simp only [List.length_nil];omega) (h63 := by simp only [maxLen, List.length_nil];omega));clear hk hS a;intro w v12 hS a hk
 rw [List.nil_append] at hS
 (repeat' (first|((first|refine wx1 ?_|refine wx2 ?_ ?_<;>intro hp|refine s_end hk ?_)<;>(clear hk a;intro a hk))|((first|refine wx3 ?_;intro w b|refine wx4 ?_;intro w|refine wx5 ?_;intro w v);clear hk hS a;intro hS a hk)|refine wx0 ?_|fail))
 refine sg hk (g_partF (i := i) hk ?_ (ht := eT rfl) (hs := (by first | exact St.rdT hS (by assumption) | exact OwT.rd (hS.rd (A := OwT _ _ _) atx) | assumption)) (hE := zT rfl) (hi := by omega));clear hk a;intro vq hvq a hk
 refine sg hk (g_appT (xs := l.take i ++ [id]) (ys := l.drop i) hk hS ?_ (hT := eT rfl) (hTx := eT rfl) (hE := zT rfl) (hz := oT rfl) (hzs := rfl) (hs := hvq _ (hS.rdT hv)) (hby := bT rfl) (hbytes := by simp only [List.length_append, List.length_singleton];omega) (h63 := by simp only [maxLen, List.length_append, List.length_singleton];omega));clear hk hS a;intro w v21 hS a hk
 (repeat' (first|((first|refine wx1 ?_|refine wx2 ?_ ?_<;>intro hp|refine s_end hk ?_)<;>(clear hk a;intro a hk))|((first|refine wx3 ?_;intro w b|refine wx4 ?_;intro w|refine wx5 ?_;intro w v);clear hk hS a;intro hS a hk)|refine wx0 ?_|fail))
 refine done1 hk (h := ?_)
 have e : l.take i ++ [id] ++ l.drop i = insF l i id := by unfold insF;simp
 rw [e] at hS
 exact hS.sb
theorem rwo5_any (l : List Int) (id : Int) (v : Value) (w0 : World) (hv : SlT l v w0) (hl : l.length ≤ 1000) :
  Calls Tryz.prog 55 #[v, .int .i64 id] w0 (Ret fun r w => St w0 [OwT 3 (woP l id) r] w) := by
 refine enter Tryz.func55 rfl Tryz.ntmps55 rfl (fun a hk => ?_);have hS := St.refl w0
 (repeat' (first|((first|refine wx1 ?_|refine wx2 ?_ ?_<;>intro hp|refine s_end hk ?_)<;>(clear hk a;intro a hk))|((first|refine wx3 ?_;intro w b|refine wx4 ?_;intro w|refine wx5 ?_;intro w v);clear hk hS a;intro hS a hk)|refine wx0 ?_|fail))
 refine sg hk (g_bs0 Int hS ?_ (hT := eT rfl) (hE := zT rfl));clear hk hS a;intro w v8 hS a hk
 (repeat' (first|((first|refine wx1 ?_|refine wx2 ?_ ?_<;>intro hp|refine s_end hk ?_)<;>(clear hk a;intro a hk))|((first|refine wx3 ?_;intro w b|refine wx4 ?_;intro w|refine wx5 ?_;intro w v);clear hk hS a;intro hS a hk)|refine wx0 ?_|fail))
 replace hk := Kn.kp [1, 5, 9, 10, 11] hk
 refine wp_for l.length (fun i v => [(5, v), (11, .int .i64 (i : Int))]) (fun i v => [OwT 3 (woP (l.take i) id) v]) (fun _ _ => True) v8 hk skx hS.sb trivial ?_
 clear hk hS a
 rintro i vo a w hi hk hS -
 have hwl : (woP (l.take i) id).length ≤ i := Nat.le_trans (List.length_filter_le _ _) (by rw [List.length_take];omega)
 by_cases hil : i < l.length
 ·obtain ⟨x, hx⟩ : ∃ x, l[i]? = some x := ⟨_, List.getElem?_eq_getElem hil⟩
  have hv1 := hS.rdT hv
  have hst : woP (l.take (i + 1)) id = woP (l.take i) id ++ (if x ≠ id then [x] else []) := by
   unfold woP
   rw [take_snoc hx, List.filter_append]
   by_cases he : x = id
   ·simp [he]
   ·simp [he]
  by_cases he : x = id
  ·rw [if_neg (by simpa using he), List.append_nil] at hst
   (repeat' (first|((first|refine wx1 ?_|refine wx2 ?_ ?_<;>intro hp|refine s_end hk ?_)<;>(clear hk a;intro a hk))|((first|refine wx3 ?_;intro w b|refine wx4 ?_;intro w|refine wx5 ?_;intro w v);clear hk hS a;intro hS a hk)|refine wx0 ?_|fail))
   exact ⟨hil, _, hk.sd, by rw [hst];exact hS.sb, trivial⟩
  ·rw [if_pos he] at hst
   generalize woP (l.take i) id = Y at *
   generalize woP (l.take (i + 1)) id = Y2 at *
   subst hst
   (repeat' (first|((first|refine wx1 ?_|refine wx2 ?_ ?_<;>intro hp|refine s_end hk ?_)<;>(clear hk a;intro a hk))|((first|refine wx3 ?_;intro w b|refine wx4 ?_;intro w|refine wx5 ?_;intro w v);clear hk hS a;intro hS a hk)|refine wx0 ?_|fail))
   exact ⟨hil, _, hk.sd, hS.sb, trivial⟩
 ·have : i = l.length := by omega
  subst this
  rw [List.take_length] at hS
  (repeat' (first|((first|refine wx1 ?_|refine wx2 ?_ ?_<;>intro hp|refine s_end hk ?_)<;>(clear hk a;intro a hk))|((first|refine wx3 ?_;intro w b|refine wx4 ?_;intro w|refine wx5 ?_;intro w v);clear hk hS a;intro hS a hk)|refine wx0 ?_|fail))
  exact done1 hk (h := hS.sb)
theorem RnR.kids5 {w : World} {n : NodeP} {id k p : Int} {tag text : ByteArray} {x y z u : Hd} (h : RnR w n (id, k, tag, text, x, y, z, p, u)) : SlT n.kids u.v w := by
 obtain ⟨a1, c1, a2, c2, a3, c3, a4, c4, e, h1, h2, h3, h4⟩ := h
 simp only [Prod.mk.injEq] at e
 obtain ⟨-, -, -, -, -, -, -, -, rfl⟩ := e
 exact h4
set_option maxHeartbeats 4000000 in
theorem rbelow5_any {most next : Int} {l : List NodeP} {H : List RnH} {v : Value} (hl : H.length ≤ 1000) (hA : ∀ i, _root_.Acc (kidOf (fnP l)) i) (hC : ∀ i n, fnP l i = some n → ∀ k ∈ n.kids, ∃ c, fnP l k = some c)
  (hK : ∀ i n, fnP l i = some n → n.kids.length ≤ 1000) :
  ∀ (id : Int) (n : NodeP) (w0 : World), fnP l id = some n → (preN (fnP l) id).length ≤ 10000 → SlT H v w0 → RowsR w0 l H →
   Calls Tryz.prog 58 #[.agg #[.int .i64 most, .int .i64 next, v], .int .i64 id] w0 (Ret fun r w => St w0 [OwT 3 (preN (fnP l) id) r] w) := by
 intro id
 induction hA id with
 | intro id _ ih =>
  intro n w0 hn hpl hv hR
  have hpre := pre_some hA hn
  have hlen := congrArg List.length hpre
  rw [List.length_cons] at hlen
  have hkl := hK id n hn
  have en : n.id = id := fnd_id hn
  obtain ⟨ao, co, rfl, -⟩ := hv.shape
  obtain ⟨x, hx, hr⟩ := hR.fnd hn
  have h4 : ∀ w, Below w0.heap.size w0 w → RnR w n x := fun w hb => hr.frz (Frz.of_below hb)
  obtain ⟨a1, c1, a2, c2, a3, c3, a4, c4, rfl, -⟩ := hr
  refine enter Tryz.func58 rfl Tryz.ntmps58 rfl (fun a hk => ?_);have hS := St.refl w0
  (repeat' (first|((first|refine wx1 ?_|refine wx2 ?_ ?_<;>intro hp|refine s_end hk ?_)<;>(clear hk a;intro a hk))|((first|refine wx3 ?_;intro w b|refine wx4 ?_;intro w|refine wx5 ?_;intro w v);clear hk hS a;intro hS a hk)|refine wx0 ?_|fail))
  rename Nat => b2
  refine sg hk (g_callO hk (hf := by kernel_rfl) (hc := rfind5_any most next H _ id _ (hS.rdT hv) (by omega)) (h := ?_));clear hk a;rintro _ w ⟨rfl, hS1⟩ a hk;replace hS := hS.call0 hS1;clear hS1
  rw [hx] at hk
  simp only [Option.getD_some, Option.isSome_some] at hk
  (repeat' (first|((first|refine wx1 ?_|refine wx2 ?_ ?_<;>intro hp|refine s_end hk ?_)<;>(clear hk a;intro a hk))|((first|refine wx3 ?_;intro w b|refine wx4 ?_;intro w|refine wx5 ?_;intro w v);clear hk hS a;intro hS a hk)|refine wx0 ?_|fail))
  rename Nat => b5
  rename Value => v17
  obtain ⟨aov17, cv17, hshp, _⟩ := (OwT.rd (hS.rd (A := OwT 3 _ v17) atx)).shape;subst hshp
  have hv4 : SlT n.kids (.slice a4 n.kids.length c4) w := (h4 w hS.below).kids5
  (repeat' (first|((first|refine wx1 ?_|refine wx2 ?_ ?_<;>intro hp|refine s_end hk ?_)<;>(clear hk a;intro a hk))|((first|refine wx3 ?_;intro w b|refine wx4 ?_;intro w|refine wx5 ?_;intro w v);clear hk hS a;intro hS a hk)|refine wx0 ?_|fail))
  clear hv4
  replace hk := Kn.kp [2, 7, 19, 20, 21] hk
  refine wp_for n.kids.length (fun i v => [(7, v), (21, .int .i64 (i : Int))]) (fun i v => OwT 3 ([id] ++ ((n.kids.take i).map (preN (fnP l))).flatten) v :: pts b2 [.int .i64 most, .int .i64 next, .slice ao H.length co] 28 :: []) (fun _ _ => True) (.slice aov17 1 cv17) hk skx (by simpa using hS.sub (.cons atx (.cons atx sbx))) trivial ?_
  clear hk hS a
  rintro i vo a w hi hk hS -
  have hv4 : SlT n.kids (.slice a4 n.kids.length c4) w := (h4 w hS.below).kids5
  by_cases hil : i < n.kids.length
  ·obtain ⟨k, hxk⟩ : ∃ k, n.kids[i]? = some k := ⟨_, List.getElem?_eq_getElem hil⟩
   have hmk := List.mem_of_getElem? hxk
   obtain ⟨c, hc⟩ := hC id n hn k hmk
   have e : ((n.kids.take (i + 1)).map (preN (fnP l))).flatten = ((n.kids.take i).map (preN (fnP l))).flatten ++ preN (fnP l) k := by
    rw [take_snoc hxk, List.map_append, List.flatten_append];simp
   have hf1 : ((n.kids.take i).map (preN (fnP l))).flatten.length + (preN (fnP l) k).length ≤ (n.kids.map (preN (fnP l))).flatten.length := by
    have := congrArg List.length e
    rw [List.length_append] at this
    rw [← this]
    conv => rhs;rw [← List.take_append_drop (i + 1) n.kids, List.map_append, List.flatten_append, List.length_append]
    omega
   (repeat' (first|((first|refine wx1 ?_|refine wx2 ?_ ?_<;>intro hp|refine s_end hk ?_)<;>(clear hk a;intro a hk))|((first|refine wx3 ?_;intro w b|refine wx4 ?_;intro w|refine wx5 ?_;intro w v);clear hk hS a;intro hS a hk)|refine wx0 ?_|fail))
   refine sg hk (g_callO hk (hf := by kernel_rfl) (hc := ih k ⟨n, hn, hmk⟩ c _ hc (by omega) (hS.rdT hv) (hR.frz (Frz.of_below hS.below))) (h := ?_));clear hk a;rintro vk w hS1 a hk;replace hS := hS.call hS1;clear hS1
   rw [List.cons_append, List.nil_append] at hS
   (repeat' (first|((first|refine wx1 ?_|refine wx2 ?_ ?_<;>intro hp|refine s_end hk ?_)<;>(clear hk a;intro a hk))|((first|refine wx3 ?_;intro w b|refine wx4 ?_;intro w|refine wx5 ?_;intro w v);clear hk hS a;intro hS a hk)|refine wx0 ?_|fail))
   rw [List.append_assoc, ← e] at hS
   exact ⟨hil, _, hk.sd, hS.sb, trivial⟩
  ·have hii : i = n.kids.length := by omega
   subst hii
   rw [List.take_length] at hS
   (repeat' (first|((first|refine wx1 ?_|refine wx2 ?_ ?_<;>intro hp|refine s_end hk ?_)<;>(clear hk a;intro a hk))|((first|refine wx3 ?_;intro w b|refine wx4 ?_;intro w|refine wx5 ?_;intro w v);clear hk hS a;intro hS a hk)|refine wx0 ?_|fail))
   refine done1 hk (h := ?_)
   rw [hpre, en]
   exact hS.sb
set_option maxHeartbeats 4000000 in
theorem rwithin5_any {D : DomP} {H : List RnH} {v : Value} (hW : WfD D) (hl : H.length ≤ 1000) (hK : ∀ i n, D.f i = some n → n.kids.length ≤ 1000) (id of_ : Int) (w0 : World) (hv : SlT H v w0) (hR : RowsR w0 D.l H) :
  Calls Tryz.prog 51 #[.agg #[.int .i64 D.most, .int .i64 D.next, v], .int .i64 id, .int .i64 of_] w0 (Ret fun r w => ∃ b, r = .bool b ∧ (b = true ↔ Win D.f of_ id) ∧ St w0 [] w) := by
 obtain ⟨ao, co, rfl, -⟩ := hv.shape
 have hHl := hR.len
 refine enter Tryz.func51 rfl Tryz.ntmps51 rfl (fun a hk => ?_);have hS := St.refl w0
 (repeat' (first|((first|refine wx1 ?_|refine wx2 ?_ ?_<;>intro hp|refine s_end hk ?_)<;>(clear hk a;intro a hk))|((first|refine wx3 ?_;intro w b|refine wx4 ?_;intro w|refine wx5 ?_;intro w v);clear hk hS a;intro hS a hk)|refine wx0 ?_|fail))
 refine sg hk (g_callO hk (hf := by kernel_rfl) (hc := rfind5_any D.most D.next H _ id _ (hS.rdT hv) (by omega)) (h := ?_));clear hk a;rintro _ w ⟨rfl, hS1⟩ a hk;replace hS := hS.call0 hS1;clear hS1
 cases hi : D.f id with
 | none =>
  rw [hR.non hi] at hk
  simp only [Option.getD_none, Option.isSome_none] at hk
  (repeat' (first|((first|refine wx1 ?_|refine wx2 ?_ ?_<;>intro hp|refine s_end hk ?_)<;>(clear hk a;intro a hk))|((first|refine wx3 ?_;intro w b|refine wx4 ?_;intro w|refine wx5 ?_;intro w v);clear hk hS a;intro hS a hk)|refine wx0 ?_|fail))
  refine sg hk (g_callO hk (hf := by kernel_rfl) (hc := rfind5_any D.most D.next H _ of_ _ (hS.rdT hv) (by omega)) (h := ?_));clear hk a;rintro _ w ⟨rfl, hS1⟩ a hk;replace hS := hS.call0 hS1;clear hS1
  generalize (fndR H of_).getD zRn = z at hk
  obtain ⟨id0, k0, tag0, text0, ⟨x1, x2, x3⟩, ⟨y1, y2, y3⟩, ⟨z1, z2, z3⟩, p0, ⟨u1, u2, u3⟩⟩ := z
  (repeat' (first|((first|refine wx1 ?_|refine wx2 ?_ ?_<;>intro hp|refine s_end hk ?_)<;>(clear hk a;intro a hk))|((first|refine wx3 ?_;intro w b|refine wx4 ?_;intro w|refine wx5 ?_;intro w v);clear hk hS a;intro hS a hk)|refine wx0 ?_|fail))
  exact done1 hk (h := ⟨false, rfl, ⟨fun h => (by cases h), fun h => absurd h (win_none hi)⟩, hS.nil⟩)
 | some ni =>
  obtain ⟨x, hx, hrx⟩ := hR.fnd hi
  rw [hx] at hk
  simp only [Option.getD_some, Option.isSome_some] at hk
  obtain ⟨id0, k0, tag0, text0, ⟨x1, x2, x3⟩, ⟨y1, y2, y3⟩, ⟨z1, z2, z3⟩, p0, ⟨u1, u2, u3⟩⟩ := x
  clear hrx
  (repeat' (first|((first|refine wx1 ?_|refine wx2 ?_ ?_<;>intro hp|refine s_end hk ?_)<;>(clear hk a;intro a hk))|((first|refine wx3 ?_;intro w b|refine wx4 ?_;intro w|refine wx5 ?_;intro w v);clear hk hS a;intro hS a hk)|refine wx0 ?_|fail))
  refine sg hk (g_callO hk (hf := by kernel_rfl) (hc := rfind5_any D.most D.next H _ of_ _ (hS.rdT hv) (by omega)) (h := ?_));clear hk a;rintro _ w ⟨rfl, hS1⟩ a hk;replace hS := hS.call0 hS1;clear hS1
  cases ho : D.f of_ with
  | none =>
   rw [hR.non ho] at hk
   simp only [Option.getD_none, Option.isSome_none] at hk
   (repeat' (first|((first|refine wx1 ?_|refine wx2 ?_ ?_<;>intro hp|refine s_end hk ?_)<;>(clear hk a;intro a hk))|((first|refine wx3 ?_;intro w b|refine wx4 ?_;intro w|refine wx5 ?_;intro w v);clear hk hS a;intro hS a hk)|refine wx0 ?_|fail))
   exact done1 hk (h := ⟨false, rfl, ⟨fun h => (by cases h), fun h => by obtain ⟨m, hm⟩ := h.top;rw [ho] at hm;cases hm⟩, hS.nil⟩)
  | some no =>
   obtain ⟨x, hx, hrx⟩ := hR.fnd ho
   rw [hx] at hk
   simp only [Option.getD_some, Option.isSome_some] at hk
   obtain ⟨id0', k0', tag0', text0', ⟨x1', x2', x3'⟩, ⟨y1', y2', y3'⟩, ⟨z1', z2', z3'⟩, p0', ⟨u1', u2', u3'⟩⟩ := x
   clear hrx
   have hpl : (preN (fnP D.l) of_).length ≤ D.l.length := pre_len hW of_
   (repeat' (first|((first|refine wx1 ?_|refine wx2 ?_ ?_<;>intro hp|refine s_end hk ?_)<;>(clear hk a;intro a hk))|((first|refine wx3 ?_;intro w b|refine wx4 ?_;intro w|refine wx5 ?_;intro w v);clear hk hS a;intro hS a hk)|refine wx0 ?_|fail))
   refine sg hk (g_callO hk (hf := by kernel_rfl) (hc := rbelow5_any hl hW.wf.accD (fun i n hn k hk => let ⟨c, hc, _⟩ := hW.wf.down i n hn k hk;⟨c, hc⟩) hK of_ no _ ho (by omega) (hS.rdT hv) (hR.frz (Frz.of_below hS.below))) (h := ?_));clear hk a;rintro vb w hS1 a hk;replace hS := hS.call hS1;clear hS1
   rw [List.cons_append, List.nil_append] at hS
   generalize hG : preN (fnP D.l) of_ = G at *
   have hGi : ∀ a, a ∈ G ↔ Win D.f of_ a := fun a => by rw [← hG];exact ⟨fun h => pre_win hW.wf h, fun h => win_pre hW.wf h⟩
   obtain ⟨aovb, cvb, hshp, _⟩ := (OwT.rd (hS.rd (A := OwT 3 _ vb) atx)).shape;subst hshp
   (repeat' (first|((first|refine wx1 ?_|refine wx2 ?_ ?_<;>intro hp|refine s_end hk ?_)<;>(clear hk a;intro a hk))|((first|refine wx3 ?_;intro w b|refine wx4 ?_;intro w|refine wx5 ?_;intro w v);clear hk hS a;intro hS a hk)|refine wx0 ?_|fail))
   replace hk := Kn.kp [1, 33, 34, 35] hk
   refine wp_for G.length (fun i _ => [(35, .int .i64 (i : Int))]) (fun _ _ => [OwT 3 G (.slice aovb G.length cvb)]) (fun i _ => id ∉ G.take i) () hk skx (hS.sub (.cons atx sbx)) (by simp) ?_
   clear hk hS a
   rintro i - a w hi2 hk hS hA
   by_cases hil : i < G.length
   ·obtain ⟨k, hxk⟩ : ∃ k, G[i]? = some k := ⟨_, List.getElem?_eq_getElem hil⟩
    by_cases he : k = id
    ·(repeat' (first|((first|refine wx1 ?_|refine wx2 ?_ ?_<;>intro hp|refine s_end hk ?_)<;>(clear hk a;intro a hk))|((first|refine wx3 ?_;intro w b|refine wx4 ?_;intro w|refine wx5 ?_;intro w v);clear hk hS a;intro hS a hk)|refine wx0 ?_|fail))
     exact done1 hk (h := ⟨true, rfl, ⟨fun _ => (hGi id).1 (by rw [← he];exact List.mem_of_getElem? hxk), fun _ => rfl⟩, hS.nil⟩)
    ·(repeat' (first|((first|refine wx1 ?_|refine wx2 ?_ ?_<;>intro hp|refine s_end hk ?_)<;>(clear hk a;intro a hk))|((first|refine wx3 ?_;intro w b|refine wx4 ?_;intro w|refine wx5 ?_;intro w v);clear hk hS a;intro hS a hk)|refine wx0 ?_|fail))
     exact ⟨hil, (), hk.sd, hS.sb, by rw [take_snoc hxk];simp only [List.mem_append, List.mem_singleton, not_or];exact ⟨hA, fun e => he e.symm⟩⟩
   ·have hii : i = G.length := by omega
    subst hii
    rw [List.take_length] at hA
    (repeat' (first|((first|refine wx1 ?_|refine wx2 ?_ ?_<;>intro hp|refine s_end hk ?_)<;>(clear hk a;intro a hk))|((first|refine wx3 ?_;intro w b|refine wx4 ?_;intro w|refine wx5 ?_;intro w v);clear hk hS a;intro hS a hk)|refine wx0 ?_|fail))
    exact done1 hk (h := ⟨false, rfl, ⟨fun h => (by cases h), fun h => absurd ((hGi id).2 h) hA⟩, hS.nil⟩)
end Go.Proofs.YtgklceoodpocaaaGreatDoor
namespace Go.Proofs.YtgklceoodpocaaaGreatDoor
open Go.RowKit
set_option maxRecDepth 100000
attribute [local irreducible] Go.Code.wpIn Go.wpListIn Go.Calls Gives Go.Exit.then Go.Exit.inBlock Done ObxE
theorem rplain_any (b : UInt8) (w0 : World) : Calls Tryz.prog 118 #[.int .u8 (b.toNat : Nat)] w0 (Ret fun v w => v = .bool (plaB b) ∧ St w0 [] w) := by
 refine enter Tryz.func118 rfl Tryz.ntmps118 rfl (fun a hk => ?_);have hS := St.refl w0
 (repeat' (first|((first|refine wx1 ?_|refine wx2 ?_ ?_<;>intro hp|refine s_end hk ?_)<;>(clear hk a;intro a hk))|((first|refine wx3 ?_;intro w b|refine wx4 ?_;intro w|refine wx5 ?_;intro w v);clear hk hS a;intro hS a hk)|refine wx0 ?_|fail))
 all_goals exact done1 hk (h := ⟨by unfold plaB;first | rw [decide_eq_true (by omega)] | rw [decide_eq_false (by omega)], hS.nil⟩)
theorem rkey_any (s : ByteArray) (hs : s.size ≤ 1000) (w0 : World) : Calls Tryz.prog 93 #[.string s] w0 (Ret fun v w => v = .bool (keyS s) ∧ St w0 [] w) := by
 refine enter Tryz.func93 rfl Tryz.ntmps93 rfl (fun a hk => ?_);have hS := St.refl w0
 (repeat' (first|((first|refine wx1 ?_|refine wx2 ?_ ?_<;>intro hp|refine s_end hk ?_)<;>(clear hk a;intro a hk))|((first|refine wx3 ?_;intro w b|refine wx4 ?_;intro w|refine wx5 ?_;intro w v);clear hk hS a;intro hS a hk)|refine wx0 ?_|fail))
 replace hk := Kn.kp [0, 3] hk
 refine wp_for s.size (fun i _ => [(3, .int .i64 (i : Int))]) (fun _ _ => []) (fun i _ => (s.data.toList.take i).all plaB = true) () hk skx hS.sb (by simp) ?_
 clear hk hS a
 rintro i - a w hi hk hS hF
 by_cases hil : i < s.size
 ·have htk := all_take hil plaB
  (repeat' (first|((first|refine wx1 ?_|refine wx2 ?_ ?_<;>intro hp|refine s_end hk ?_)<;>(clear hk a;intro a hk))|((first|refine wx3 ?_;intro w b|refine wx4 ?_;intro w|refine wx5 ?_;intro w v);clear hk hS a;intro hS a hk)|refine wx0 ?_|fail))
  refine sg hk (g_callO hk (hf := by kernel_rfl) (hc := rplain_any s[i] _) (h := ?_));clear hk a;rintro _ w ⟨rfl, hS1⟩ a hk;replace hS := hS.call0 hS1;clear hS1
  cases hb : plaB s[i] with
  | true =>
   rw [hb] at hk
   (repeat' (first|((first|refine wx1 ?_|refine wx2 ?_ ?_<;>intro hp|refine s_end hk ?_)<;>(clear hk a;intro a hk))|((first|refine wx3 ?_;intro w b|refine wx4 ?_;intro w|refine wx5 ?_;intro w v);clear hk hS a;intro hS a hk)|refine wx0 ?_|fail))
   exact ⟨hil, (), hk.sd, hS.sb, by rw [htk, hF, hb];rfl⟩
  | false =>
   rw [hb] at hk
   (repeat' (first|((first|refine wx1 ?_|refine wx2 ?_ ?_<;>intro hp|refine s_end hk ?_)<;>(clear hk a;intro a hk))|((first|refine wx3 ?_;intro w b|refine wx4 ?_;intro w|refine wx5 ?_;intro w v);clear hk hS a;intro hS a hk)|refine wx0 ?_|fail))
   exact done1 hk (h := ⟨by unfold keyS;rw [all_no hil hb];simp, hS.nil⟩)
 ·have : i = s.size := by omega
  subst this
  rw [all_full] at hF
  (repeat' (first|((first|refine wx1 ?_|refine wx2 ?_ ?_<;>intro hp|refine s_end hk ?_)<;>(clear hk a;intro a hk))|((first|refine wx3 ?_;intro w b|refine wx4 ?_;intro w|refine wx5 ?_;intro w v);clear hk hS a;intro hS a hk)|refine wx0 ?_|fail))
  all_goals exact done1 hk (h := ⟨by unfold keyS;rw [hF];first | rw [decide_eq_true (by omega)];rfl | rw [decide_eq_false (by omega)];rfl, hS.nil⟩)
theorem rname_any (s : ByteArray) (hs : s.size ≤ 1000) (w0 : World) : Calls Tryz.prog 48 #[.string s] w0 (Ret fun v w => v = .bool (nameS s) ∧ St w0 [] w) := by
  refine enter Tryz.func48 rfl Tryz.ntmps48 rfl (fun a hk => ?_); have hS := St.refl w0
  (repeat' (first|((first|refine wx1 ?_|refine wx2 ?_ ?_<;>intro hp|refine s_end hk ?_)<;>(clear hk a;intro a hk))|((first|refine wx3 ?_;intro w b|refine wx4 ?_;intro w|refine wx5 ?_;intro w v);clear hk hS a;intro hS a hk)|refine wx0 ?_|fail))
  refine sg hk (g_callO hk (hf := by kernel_rfl) (hc := rkey_any s hs _) (h := ?_)); clear hk a; rintro _ w ⟨rfl, hS1⟩ a hk; replace hS := hS.call0 hS1; clear hS1
  cases h : keyS s with
  | false =>
    rw [h] at hk
    (repeat' (first|((first|refine wx1 ?_|refine wx2 ?_ ?_<;>intro hp|refine s_end hk ?_)<;>(clear hk a;intro a hk))|((first|refine wx3 ?_;intro w b|refine wx4 ?_;intro w|refine wx5 ?_;intro w v);clear hk hS a;intro hS a hk)|refine wx0 ?_|fail))
    exact done1 hk (h := ⟨by unfold nameS; rw [h]; rfl, hS.nil⟩)
  | true =>
    rw [h] at hk
    have h0 : 0 < s.size := by unfold keyS at h; simp at h; omega
    have hp : plaB s[0] = true := by
      have h2 : s.data.toList.all plaB = true := by unfold keyS at h; simp only [Bool.and_eq_true] at h; exact h.2
      exact List.all_eq_true.1 h2 _ (List.mem_of_getElem? (byte_at h0))
    unfold plaB at hp
    simp only [decide_eq_true_eq] at hp
    (repeat' (first|((first|refine wx1 ?_|refine wx2 ?_ ?_<;>intro hp|refine s_end hk ?_)<;>(clear hk a;intro a hk))|((first|refine wx3 ?_;intro w b|refine wx4 ?_;intro w|refine wx5 ?_;intro w v);clear hk hS a;intro hS a hk)|refine wx0 ?_|fail))
    (repeat' (first|((first|refine wx1 ?_|refine wx2 ?_ ?_<;>intro hp|refine s_end hk ?_)<;>(clear hk a;intro a hk))|((first|refine wx3 ?_;intro w b|refine wx4 ?_;intro w|refine wx5 ?_;intro w v);clear hk hS a;intro hS a hk)|refine wx0 ?_|fail))
    all_goals first
      | (have hq : (97 : Int) ≤ ((s[0]'h0).toNat : Nat) := by assumption
         exact done1 hk (h := ⟨by unfold nameS; rw [h, head_at h0]; unfold letB; rw [decide_eq_true (by omega)]; rfl, hS.nil⟩))
      | (have hq : ¬ (97 : Int) ≤ ((s[0]'h0).toNat : Nat) := by assumption
         exact done1 hk (h := ⟨by unfold nameS; rw [h, head_at h0]; unfold letB; rw [decide_eq_false (by omega)]; rfl, hS.nil⟩))
end Go.Proofs.YtgklceoodpocaaaGreatDoor
namespace Go.Proofs.YtgklceoodpocaaaGreatDoor
open Go.RowKit
inductive STree where
 | mk (id k : Int) (tag text : ByteArray) (cl : List ByteArray) (at_ : List (ByteArray × ByteArray)) (st : List (ByteArray × Int)) (kids : List STree)
abbrev SnH := Int × Int × ByteArray × ByteArray × Hd × Hd × Hd × Hd
abbrev snV (h : SnH) : Value := .agg (Enc.f h).toArray
inductive SrR (w : World) : STree → SnH → Prop
 | mk {id k : Int} {tag text : ByteArray} {cl : List ByteArray} {at_ : List (ByteArray × ByteArray)} {st : List (ByteArray × Int)} {kids : List STree} {hc ha hs hk : Hd} {H : List SnH}
  (h1 : SlT cl hc.v w) (h2 : SlT at_ ha.v w) (h3 : SlT st hs.v w) (h4 : SlT H hk.v w) (hl : H.length = kids.length)
  (hr : ∀ (i : Nat) (t : STree) (h : SnH), kids[i]? = some t → H[i]? = some h → SrR w t h) : SrR w (.mk id k tag text cl at_ st kids) (id, k, tag, text, hc, ha, hs, hk)
theorem SrR.frz {w w' : World} {t : STree} {h : SnH} (hr : SrR w t h) (hf : Frz w w') : SrR w' t h := by
 induction hr with
 | mk h1 h2 h3 h4 hl _ ih => exact .mk (h1.frz hf) (h2.frz hf) (h3.frz hf) (h4.frz hf) hl ih
theorem SrR.stays (t : STree) (h : SnH) : Stays (fun w => SrR w t h) := fun _ _ hf hr => hr.frz hf
def SoR (w : World) (ts : List STree) (H : List SnH) : Prop := H.length = ts.length ∧ ∀ (i : Nat) (t : STree) (h : SnH), ts[i]? = some t → H[i]? = some h → SrR w t h
theorem SoR.frz {w w' : World} {ts : List STree} {H : List SnH} (hr : SoR w ts H) (hf : Frz w w') : SoR w' ts H := ⟨hr.1, fun i t h h1 h2 => (hr.2 i t h h1 h2).frz hf⟩
theorem SoR.stays (ts : List STree) (H : List SnH) : Stays (fun w => SoR w ts H) := fun _ _ hf hr => hr.frz hf
theorem SoR.nil (w : World) : SoR w [] [] := ⟨rfl, fun i t h h1 _ => by simp at h1⟩
theorem SoR.snoc {w : World} {ts : List STree} {H : List SnH} {t : STree} {h : SnH} (hF : SoR w ts H) (hT : SrR w t h) : SoR w (ts ++ [t]) (H ++ [h]) := by
 refine ⟨by simp [hF.1], fun i t' h' h1 h2 => ?_⟩
 rcases Nat.lt_or_ge i ts.length with hi | hi
 ·rw [List.getElem?_append_left hi] at h1
  rw [List.getElem?_append_left (by rw [hF.1];exact hi)] at h2
  exact hF.2 i t' h' h1 h2
 ·rw [List.getElem?_append_right hi] at h1
  rw [List.getElem?_append_right (by rw [hF.1];exact hi), hF.1] at h2
  cases hj : i - ts.length with
  | zero =>
   rw [hj] at h1 h2
   simp at h1 h2
   subst h1 h2
   exact hT
  | succ j => rw [hj] at h1;simp at h1
abbrev streeR (t : STree) (h : SnH) : HP := rdH (fun w => SrR w t h)
abbrev sforR (ts : List STree) (H : List SnH) : HP := rdH (fun w => SoR w ts H)
def streeH (t : STree) (v : Value) : HP := bagH (fun h : SnH => [streeR t h]) (fun h => v = snV h)
section
variable {B : Bs} {w : World} {L L' : List HP}
theorem streeR.of {id k : Int} {tag text : ByteArray} {cl : List ByteArray} {at_ : List (ByteArray × ByteArray)} {st : List (ByteArray × Int)} {kids : List STree} {hc ha hs hk : Hd} {H : List SnH} {A1 A2 A3 A4 : HP}
  (h : St B (A1 :: A2 :: A3 :: A4 :: sforR kids H :: L) w) (h1 : ∀ g, A1.rd g → SlT cl hc.v g := by exact fun g h => by first | exact OwT.rd h | exact appH.rd h) (h2 : ∀ g, A2.rd g → SlT at_ ha.v g := by exact fun g h => OwT.rd h)
  (h3 : ∀ g, A3.rd g → SlT st hs.v g := by exact fun g h => OwT.rd h) (h4 : ∀ g, A4.rd g → SlT H hk.v g := by exact fun g h => OwT.rd h) : St B (streeR (.mk id k tag text cl at_ st kids) (id, k, tag, text, hc, ha, hs, hk) :: L) w := by
 refine rdH.of (L1 := [A1, A2, A3, A4, sforR kids H]) h fun g hg => ?_
 have hF : SoR g kids H := rdH.rd (SoR.stays kids H) (hg _ (by simp))
 exact .mk (h1 g (hg A1 (by simp))) (h2 g (hg A2 (by simp))) (h3 g (hg A3 (by simp))) (h4 g (hg A4 (by simp))) hF.1 hF.2
theorem streeH.of {t : STree} {h : SnH} (hS : St B (streeR t h :: L) w) : St B (streeH t (snV h) :: L) w := bagH.of (A := fun h : SnH => [streeR t h]) (x := h) hS rfl
theorem St.stree {t : STree} {v : Value} (hS : St B L w) (hat : At (streeH t v) L L') : ∃ h, v = snV h ∧ St B (streeR t h :: L') w := St.bag hS hat
theorem St.srR {t : STree} {h : SnH} (hS : St B L w) (hat : At (streeR t h) L L') : SrR w t h := rdH.rd (SrR.stays t h) (hS.rd hat)
theorem St.soR {ts : List STree} {H : List SnH} (hS : St B L w) (hat : At (sforR ts H) L L') : SoR w ts H := rdH.rd (SoR.stays ts H) (hS.rd hat)
theorem sforR.nil (hS : St B L w) : St B (sforR [] [] :: L) w := rdH.of (L1 := []) hS fun g _ => SoR.nil g
theorem sforR.snoc {ts : List STree} {H : List SnH} {t : STree} {h : SnH} (hS : St B (streeR t h :: sforR ts H :: L) w) : St B (sforR (ts ++ [t]) (H ++ [h]) :: L) w :=
 rdH.of (L1 := [streeR t h, sforR ts H]) hS fun g hg => (rdH.rd (SoR.stays ts H) (hg _ (by simp))).snoc (rdH.rd (SrR.stays t h) (hg _ (by simp)))
abbrev sforR2 (ts us : List STree) (H K : List SnH) : HP := rdH (fun w => SoR w ts H ∧ SoR w us K)
theorem St.rdSr {t : STree} {h : SnH} (hS : St B L w) (hr : SrR B.g t h) : SrR w t h := hr.frz hS.frz
theorem St.rdSo {ts : List STree} {H : List SnH} (hS : St B L w) (hr : SoR B.g ts H) : SoR w ts H := hr.frz hS.frz
theorem streeH.rd {t : STree} {v : Value} (h : (streeH t v).rd w) : ∃ h, v = snV h ∧ SrR w t h := by
 obtain ⟨x, hp, F, F1, _, _, _, _, h4, _⟩ := bagH.rd h
 exact ⟨x, hp, rdH.rd (SrR.stays t x) ⟨F1, h4⟩⟩
end
open Classical in
noncomputable def snOf (v : Value) : SnH := if h : ∃ x, v = snV x then Classical.choose h else default
theorem SrR.split {w : World} {t : STree} {h : SnH} (hr : SrR w t h) : ∃ id k tag text cl al sl kids a1 m1 a2 m2 a3 m3 a4 m4, ∃ H : List SnH, t = .mk id k tag text cl al sl kids ∧
  h = (id, k, tag, text, ⟨a1, cl.length, m1⟩, ⟨a2, al.length, m2⟩, ⟨a3, sl.length, m3⟩, ⟨a4, H.length, m4⟩) ∧
  SlT cl (.slice a1 cl.length m1) w ∧ SlT al (.slice a2 al.length m2) w ∧ SlT sl (.slice a3 sl.length m3) w ∧ SlT H (.slice a4 H.length m4) w ∧ SoR w kids H := by
 obtain ⟨c1, c2, c3, c4, hl, hkr⟩ := hr
 rename_i id k tag text cl al sl kids hc ha hs hk0 H
 obtain ⟨a1, m1, rfl⟩ := c1.hd
 obtain ⟨a2, m2, rfl⟩ := c2.hd
 obtain ⟨a3, m3, rfl⟩ := c3.hd
 obtain ⟨a4, m4, rfl⟩ := c4.hd
 exact ⟨id, k, tag, text, cl, al, sl, kids, a1, m1, a2, m2, a3, m3, a4, m4, H, rfl, rfl, c1, c2, c3, c4, hl, hkr⟩
theorem snV_inj {x y : SnH} (h : snV x = snV y) : x = y := by
 obtain ⟨id, k, tag, text, hc, ha, hs, hk⟩ := x
 obtain ⟨id', k', tag', text', hc', ha', hs', hk'⟩ := y
 have h2 : ([.int .i64 id, .int .i64 k, .string tag, .string text, hc.v, ha.v, hs.v, hk.v] : List Value)
  = [.int .i64 id', .int .i64 k', .string tag', .string text', hc'.v, ha'.v, hs'.v, hk'.v] := by
  have := congrArg Value.cells h
  exact congrArg Array.toList this
 simp only [List.cons.injEq, Value.int.injEq, Value.string.injEq, true_and, and_true] at h2
 obtain ⟨rfl, rfl, rfl, rfl, h5, h6, h7, h8⟩ := h2
 rw [hdv_inj h5, hdv_inj h6, hdv_inj h7, hdv_inj h8]
theorem snOf_snV (x : SnH) : snOf (snV x) = x := by
 unfold snOf
 rw [dif_pos ⟨x, rfl⟩]
 exact (snV_inj (Classical.choose_spec (p := fun y => snV x = snV y) ⟨x, rfl⟩)).symm
def STree.kids : STree → List STree
 | .mk _ _ _ _ _ _ _ ks => ks
theorem skid_lt {id k : Int} {tag text : ByteArray} {cl : List ByteArray} {at_ : List (ByteArray × ByteArray)} {st : List (ByteArray × Int)} {kids : List STree} {t : STree} (h : t ∈ kids) : SizeOf.sizeOf t < SizeOf.sizeOf (STree.mk id k tag text cl at_ st kids) := by
 have := List.sizeOf_lt_of_mem h
 simp only [STree.mk.sizeOf_spec]
 omega
inductive SFits : STree → Prop
 | mk {id k : Int} {tag text : ByteArray} {cl : List ByteArray} {at_ : List (ByteArray × ByteArray)} {st : List (ByteArray × Int)} {kids : List STree}
  (h1 : cl.length ≤ 100) (h2 : at_.length ≤ 100) (h3 : st.length ≤ 100) (h4 : kids.length ≤ 1000) (h5 : ∀ t ∈ kids, SFits t) : SFits (.mk id k tag text cl at_ st kids)
end Go.Proofs.YtgklceoodpocaaaGreatDoor
namespace Go.Proofs.YtgklceoodpocaaaGreatDoor
open Go.RowKit
set_option maxRecDepth 100000
attribute [local irreducible] Go.Code.wpIn Go.wpListIn Go.Calls Gives Go.Exit.then Go.Exit.inBlock Done ObxE
theorem getLast_take {β : Type} {S : List β} {k : Nat} (h : k + 1 ≤ S.length) : (S.take (k + 1)).getLast? = some (S[k]'(by omega)) := by
 rw [List.getLast?_eq_getElem?, List.length_take, Nat.min_eq_left h, List.getElem?_take, if_pos (by omega), List.getElem?_eq_getElem (by omega)]
 simp
set_option maxHeartbeats 4000000 in
theorem refOf_any (l : List PrI) (v : Value) (w0 : World) (hv : SlT l v w0) (hl : l.length ≤ 1000) :
  Calls Tryz.prog 68 #[v] w0 (Ret fun v w => St w0 [OwT 103 (snapF nmI l) v] w) := by
 have hsl := snap_len nmI l
 have hmn := fun k hk => minE_next nmI l k hk
 generalize snapF nmI l = S at *
 refine enter Tryz.func68 rfl Tryz.ntmps68 rfl (fun a hk => ?_);have hS := St.refl w0
 (repeat' (first|((first|refine wx1 ?_|refine wx2 ?_ ?_<;>intro hp|refine s_end hk ?_)<;>(clear hk a;intro a hk))|((first|refine wx3 ?_;intro w b|refine wx4 ?_;intro w|refine wx5 ?_;intro w v);clear hk hS a;intro hS a hk)|refine wx0 ?_|fail))
 refine sg hk (g_bs0 PrI hS ?_ (hT := eT rfl) (hE := zT rfl));clear hk hS a;intro w v2 hS a hk
 (repeat' (first|((first|refine wx1 ?_|refine wx2 ?_ ?_<;>intro hp|refine s_end hk ?_)<;>(clear hk a;intro a hk))|((first|refine wx3 ?_;intro w b|refine wx4 ?_;intro w|refine wx5 ?_;intro w v);clear hk hS a;intro hS a hk)|refine wx0 ?_|fail))
 replace hk := Kn.kp [0, 3] hk
 refine wp_for S.length (fun _ v => [(3, v)]) (fun k v => [OwT 103 (S.take k) v]) (fun _ _ => True) v2 hk skx hS trivial ?_
 clear hk hS a
 rintro k vo a w hk1 hk hS -
 have hkl : (S.take k).length = k := by rw [List.length_take];omega
 have hm1 := hmn k hk1
 (repeat' (first|((first|refine wx1 ?_|refine wx2 ?_ ?_<;>intro hp|refine s_end hk ?_)<;>(clear hk a;intro a hk))|((first|refine wx3 ?_;intro w b|refine wx4 ?_;intro w|refine wx5 ?_;intro w v);clear hk hS a;intro hS a hk)|refine wx0 ?_|fail))
 replace hk := Kn.kp [0, 3, 4, 5, 11, 12, 13] hk
 refine wp_for l.length (fun i _ => [(4, .bool (minE nmI (l.take i) ((S.take k).getLast?.map nmI)).isSome), (13, .int .i64 (i : Int))]) (fun i _ => [pts b (Enc.f ((minE nmI (l.take i) ((S.take k).getLast?.map nmI)).getD (⟨#[]⟩, 0))) 103, OwT 103 (S.take k) vo]) (fun _ _ => True) () hk skx hS.sb trivial ?_
 clear hk hS a
 rintro i - a w hi hk hS -
 by_cases hil : i < l.length
 ·obtain ⟨⟨id, X⟩, hx⟩ : ∃ x, l[i]? = some x := ⟨_, List.getElem?_eq_getElem hil⟩
  have hm' : minE nmI (l.take (i + 1)) ((S.take k).getLast?.map nmI) = minStepE nmI ((S.take k).getLast?.map nmI) (minE nmI (l.take i) ((S.take k).getLast?.map nmI)) (id, X) := by rw [take_snoc hx, minE_snoc]
  have hA : (S.take k).getLast?.map nmI = none ∧ k = 0 ∨ ∃ h : k - 1 < S.length, 0 < k ∧ (S.take k).getLast?.map nmI = some S[k - 1].1 := by
   by_cases hk0 : k = 0
   ·subst hk0;exact .inl ⟨rfl, rfl⟩
   ·refine .inr ⟨by omega, by omega, ?_⟩
    obtain ⟨k', rfl⟩ : ∃ k', k = k' + 1 := ⟨k - 1, by omega⟩
    rw [getLast_take hk1]
    rfl
  generalize minE nmI (l.take (i + 1)) ((S.take k).getLast?.map nmI) = m' at hm' ⊢
  generalize minE nmI (l.take i) ((S.take k).getLast?.map nmI) = m at hm' hk hS
  generalize (S.take k).getLast?.map nmI = A at hm' hA
  rcases hA with ⟨rfl, hk0⟩ | ⟨hkS, hkp, rfl⟩
  ·rcases m with _ | ⟨qn, qx⟩
   ·have e : m' = some (id, X) := by rw [hm'];rfl
    subst e
    simp only [Option.isSome_none, Option.getD_none] at hk hS
    (repeat' (first|((first|refine wx1 ?_|refine wx2 ?_ ?_<;>intro hp|refine s_end hk ?_)<;>(clear hk a;intro a hk))|((first|refine wx3 ?_;intro w b|refine wx4 ?_;intro w|refine wx5 ?_;intro w v);clear hk hS a;intro hS a hk)|refine wx0 ?_|fail))
    refine wp_drawn 13 mixed (by kernel_rfl) hk hS ?_;clear hk hS a
    (repeat' (first|(show ObxE _ _ _ _ _ _ _ _ _ (_::_) _ _ _;first|refine ox1 ?_|refine ox2 ?_ ?_<;>intro hp)|fail))
    refine obe_nil ⟨rfl, ?_⟩;intro us a w hk hS
    (repeat' (first|((first|refine wx1 ?_|refine wx2 ?_ ?_<;>intro hp|refine s_end hk ?_)<;>(clear hk a;intro a hk))|((first|refine wx3 ?_;intro w b|refine wx4 ?_;intro w|refine wx5 ?_;intro w v);clear hk hS a;intro hS a hk)|refine wx0 ?_|fail))
    exact ⟨hil, (), hk.sd, hS.sb, trivial⟩
   ·simp only [Option.isSome_some, Option.getD_some] at hk hS
    (repeat' (first|((first|refine wx1 ?_|refine wx2 ?_ ?_<;>intro hp|refine s_end hk ?_)<;>(clear hk a;intro a hk))|((first|refine wx3 ?_;intro w b|refine wx4 ?_;intro w|refine wx5 ?_;intro w v);clear hk hS a;intro hS a hk)|refine wx0 ?_|fail))
    refine wp_drawn 13 mixed (by kernel_rfl) hk hS ?_;clear hk hS a
    (repeat' (first|(show ObxE _ _ _ _ _ _ _ _ _ (_::_) _ _ _;first|refine ox1 ?_|refine ox2 ?_ ?_<;>intro hp)|fail))
    refine obe_nil ⟨rfl, ?_⟩;intro us a w hk hS
    (repeat' (first|((first|refine wx1 ?_|refine wx2 ?_ ?_<;>intro hp|refine s_end hk ?_)<;>(clear hk a;intro a hk))|((first|refine wx3 ?_;intro w b|refine wx4 ?_;intro w|refine wx5 ?_;intro w v);clear hk hS a;intro hS a hk)|refine wx0 ?_|fail))
    ·have h1 : (!Lin.lt qn id) = true := by assumption
     have e : m' = some (id, X) := by rw [hm'];simp at h1;simp [minStepE, aheadB, h1]
     subst e
     exact ⟨hil, (), hk.sd, hS.sb, trivial⟩
    ·have h1 : (!Lin.lt qn id) = false := by assumption
     have e : m' = some (qn, qx) := by rw [hm'];simp at h1;simp [minStepE, aheadB, h1]
     subst e
     exact ⟨hil, (), hk.sd, hS.sb, trivial⟩
  ·have hga : ∀ h, ((S.take k)[(((S.take k).length : Int) - 1).toNat]'h).1 = S[k - 1].1 := by
    intro h
    rw [List.getElem_take]
    congr 2
    omega
   rcases m with _ | ⟨qn, qx⟩
   ·simp only [Option.isSome_none, Option.getD_none] at hk hS
    (repeat' (first|((first|refine wx1 ?_|refine wx2 ?_ ?_<;>intro hp|refine s_end hk ?_)<;>(clear hk a;intro a hk))|((first|refine wx3 ?_;intro w b|refine wx4 ?_;intro w|refine wx5 ?_;intro w v);clear hk hS a;intro hS a hk)|refine wx0 ?_|fail))
    refine wp_drawn 13 mixed (by kernel_rfl) hk hS ?_;clear hk hS a
    (repeat' (first|(show ObxE _ _ _ _ _ _ _ _ _ (_::_) _ _ _;first|refine ox1 ?_|refine ox2 ?_ ?_<;>intro hp)|fail))
    refine obe_nil ⟨rfl, ?_⟩;intro us a w hk hS
    (repeat' (first|((first|refine wx1 ?_|refine wx2 ?_ ?_<;>intro hp|refine s_end hk ?_)<;>(clear hk a;intro a hk))|((first|refine wx3 ?_;intro w b|refine wx4 ?_;intro w|refine wx5 ?_;intro w v);clear hk hS a;intro hS a hk)|refine wx0 ?_|fail))
    ·have h1 : Lin.lt S[k - 1].1 id = true := by rw [← hga (by omega)];assumption
     have e : m' = some (id, X) := by rw [hm'];simp [minStepE, aheadB, h1]
     subst e
     exact ⟨hil, (), hk.sd, hS.sb, trivial⟩
    ·have h1 : Lin.lt S[k - 1].1 id = false := by rw [← hga (by omega)];assumption
     have e : m' = none := by rw [hm'];simp [minStepE, aheadB, h1]
     subst e
     exact ⟨hil, (), hk.sd, hS.sb, trivial⟩
   ·simp only [Option.isSome_some, Option.getD_some] at hk hS
    (repeat' (first|((first|refine wx1 ?_|refine wx2 ?_ ?_<;>intro hp|refine s_end hk ?_)<;>(clear hk a;intro a hk))|((first|refine wx3 ?_;intro w b|refine wx4 ?_;intro w|refine wx5 ?_;intro w v);clear hk hS a;intro hS a hk)|refine wx0 ?_|fail))
    refine wp_drawn 13 mixed (by kernel_rfl) hk hS ?_;clear hk hS a
    (repeat' (first|(show ObxE _ _ _ _ _ _ _ _ _ (_::_) _ _ _;first|refine ox1 ?_|refine ox2 ?_ ?_<;>intro hp)|fail))
    refine obe_nil ⟨rfl, ?_⟩;intro us a w hk hS
    (repeat' (first|((first|refine wx1 ?_|refine wx2 ?_ ?_<;>intro hp|refine s_end hk ?_)<;>(clear hk a;intro a hk))|((first|refine wx3 ?_;intro w b|refine wx4 ?_;intro w|refine wx5 ?_;intro w v);clear hk hS a;intro hS a hk)|refine wx0 ?_|fail))
    ·have h1 : Lin.lt S[k - 1].1 id = true := by rw [← hga (by omega)];assumption
     have h2 : (!Lin.lt qn id) = true := by assumption
     have e : m' = some (id, X) := by rw [hm'];simp at h2;simp [minStepE, aheadB, h1, h2]
     subst e
     exact ⟨hil, (), hk.sd, hS.sb, trivial⟩
    ·have h1 : Lin.lt S[k - 1].1 id = true := by rw [← hga (by omega)];assumption
     have h2 : (!Lin.lt qn id) = false := by assumption
     have e : m' = some (qn, qx) := by rw [hm'];simp at h2;simp [minStepE, aheadB, h1, h2]
     subst e
     exact ⟨hil, (), hk.sd, hS.sb, trivial⟩
    ·have h1 : Lin.lt S[k - 1].1 id = false := by rw [← hga (by omega)];assumption
     have e : m' = some (qn, qx) := by rw [hm'];simp [minStepE, aheadB, h1]
     subst e
     exact ⟨hil, (), hk.sd, hS.sb, trivial⟩
 ·have : i = l.length := by omega
  subst this
  rw [List.take_length, hm1] at hk hS
  by_cases hkS : k < S.length
  ·obtain ⟨⟨i2, X2⟩, hSk⟩ : ∃ e, S[k]? = some e := ⟨_, List.getElem?_eq_getElem hkS⟩
   rw [hSk] at hk hS
   simp only [Option.isSome_some, Option.getD_some] at hk hS
   (repeat' (first|((first|refine wx1 ?_|refine wx2 ?_ ?_<;>intro hp|refine s_end hk ?_)<;>(clear hk a;intro a hk))|((first|refine wx3 ?_;intro w b|refine wx4 ?_;intro w|refine wx5 ?_;intro w v);clear hk hS a;intro hS a hk)|refine wx0 ?_|fail))
   refine sg hk (g_bsT (xs := [((i2, X2) : PrI)]) (m := 0) hk hS ?_ (hT := eT rfl) (hE := zT rfl) (hz := oT rfl));clear hk hS a;intro w ve hS a hk
   (repeat' (first|((first|refine wx1 ?_|refine wx2 ?_ ?_<;>intro hp|refine s_end hk ?_)<;>(clear hk a;intro a hk))|((first|refine wx3 ?_;intro w b|refine wx4 ?_;intro w|refine wx5 ?_;intro w v);clear hk hS a;intro hS a hk)|refine wx0 ?_|fail))
   have hst : S.take (k + 1) = S.take k ++ [(i2, X2)] := take_snoc hSk
   rw [← hst] at hS
   exact ⟨hkS, _, hk.sd, hS.sb, trivial⟩
  ·have : k = S.length := by omega
   subst this
   rw [List.getElem?_eq_none (Nat.le_refl _)] at hk hS
   rw [List.take_length] at hS
   simp only [Option.isSome_none] at hk
   (repeat' (first|((first|refine wx1 ?_|refine wx2 ?_ ?_<;>intro hp|refine s_end hk ?_)<;>(clear hk a;intro a hk))|((first|refine wx3 ?_;intro w b|refine wx4 ?_;intro w|refine wx5 ?_;intro w v);clear hk hS a;intro hS a hk)|refine wx0 ?_|fail))
   exact done1 hk (h := hS.sb)
def few04 (l : List PrI) (n : Nat) : List PrI := (l.take n).map (fun p => (cutF p.1 20, p.2))
end Go.Proofs.YtgklceoodpocaaaGreatDoor
namespace Go.Proofs.YtgklceoodpocaaaGreatDoor
open Go.RowKit
set_option maxRecDepth 100000
attribute [local irreducible] Go.Code.wpIn Go.wpListIn Go.Calls Gives Go.Exit.then Go.Exit.inBlock Done ObxE
section
variable {α β κ : Type} [DecidableEq κ] [Lin κ] {key : α → κ} {key' : β → κ} {f : α → β}
end
def idxF (l : List PrS) (n : Nat) : List PrI := (List.range n).map (fun i : Nat => ((l[i]?.getD (⟨#[]⟩, ⟨#[]⟩)).1, (i : Int)))
def atI (l : List PrS) (p : PrI) : PrS := l[p.2.toNat]?.getD (⟨#[]⟩, ⟨#[]⟩)
end Go.Proofs.YtgklceoodpocaaaGreatDoor
namespace Go.Proofs.YtgklceoodpocaaaGreatDoor
open Go.RowKit
set_option maxRecDepth 100000
attribute [local irreducible] Go.Code.wpIn Go.wpListIn Go.Calls Gives Go.Exit.then Go.Exit.inBlock Done ObxE
theorem take_snocC {α : Type} {l : List α} {i : Nat} {x : α} (h : l[i]? = some x) : l.take (i + 1) = l.take i ++ [x] := by rw [List.take_add_one, h]; rfl
theorem idxS_any (l : List ByteArray) (c : ByteArray) (v : Value) (w0 : World) (hv : SlT l v w0) (hl : l.length ≤ 100000) :
  Calls Tryz.prog 147 #[v, .string c] w0 (Ret fun v w => (∃ p : Int, v = .int .i64 p ∧ (0 ≤ p ↔ c ∈ l) ∧ -1 ≤ p) ∧ St w0 [] w) := by
 refine enter Tryz.func147 rfl Tryz.ntmps147 rfl (fun a hk => ?_);have hS := St.refl w0
 (repeat' (first|((first|refine wx1 ?_|refine wx2 ?_ ?_<;>intro hp|refine s_end hk ?_)<;>(clear hk a;intro a hk))|((first|refine wx3 ?_;intro w b|refine wx4 ?_;intro w|refine wx5 ?_;intro w v);clear hk hS a;intro hS a hk)|refine wx0 ?_|fail))
 replace hk := Kn.kp [0, 1, 7, 8] hk
 refine wp_for l.length (fun i _ => [(8, .int .i64 (i : Int))]) (fun _ _ => []) (fun i _ => c ∉ l.take i) () hk skx hS.sb (by simp) ?_
 clear hk hS a
 rintro i - a w hi hk hS hF
 have hv1 := hS.rdT hv
 by_cases hil : i < l.length
 ·obtain ⟨x, hx⟩ : ∃ x, l[i]? = some x := ⟨_, List.getElem?_eq_getElem hil⟩
  (repeat' (first|((first|refine wx1 ?_|refine wx2 ?_ ?_<;>intro hp|refine s_end hk ?_)<;>(clear hk a;intro a hk))|((first|refine wx3 ?_;intro w b|refine wx4 ?_;intro w|refine wx5 ?_;intro w v);clear hk hS a;intro hS a hk)|refine wx0 ?_|fail))
  ·have e : c = x := by assumption
   exact done1 hk (h := ⟨⟨_, rfl, ⟨fun _ => by rw [e];exact List.mem_of_getElem? hx, fun _ => by omega⟩, by omega⟩, hS.nil⟩)
  ·have e : ¬ c = x := by assumption
   exact ⟨hil, (), hk.sd, hS.sb, by rw [take_snocC hx, List.mem_append, List.mem_singleton];rintro (h | h);exact hF h;exact e h⟩
 ·have : i = l.length := by omega
  subst this
  rw [List.take_length] at hF
  (repeat' (first|((first|refine wx1 ?_|refine wx2 ?_ ?_<;>intro hp|refine s_end hk ?_)<;>(clear hk a;intro a hk))|((first|refine wx3 ?_;intro w b|refine wx4 ?_;intro w|refine wx5 ?_;intro w v);clear hk hS a;intro hS a hk)|refine wx0 ?_|fail))
  exact done1 hk (h := ⟨⟨-1, rfl, ⟨fun h => by omega, fun h => absurd h hF⟩, by omega⟩, hS.nil⟩)
open Classical in
theorem hasC_any (l : List ByteArray) (c : ByteArray) (v : Value) (w0 : World) (hv : SlT l v w0) (hl : l.length ≤ 100000) :
  Calls Tryz.prog 106 #[v, .string c] w0 (Ret fun v w => v = .bool (decide (c ∈ l)) ∧ St w0 [] w) := by
 have con : ∀ w0, SlT l v w0 → Calls Tryz.prog 127 #[v, .string c] w0 (Ret fun v w => v = .bool (decide (c ∈ l)) ∧ St w0 [] w) := by
  intro w0 hv
  refine enter Tryz.func127 rfl Tryz.ntmps127 rfl (fun a hk => ?_);have hS := St.refl w0
  (repeat' (first|((first|refine wx1 ?_|refine wx2 ?_ ?_<;>intro hp|refine s_end hk ?_)<;>(clear hk a;intro a hk))|((first|refine wx3 ?_;intro w b|refine wx4 ?_;intro w|refine wx5 ?_;intro w v);clear hk hS a;intro hS a hk)|refine wx0 ?_|fail))
  refine sg hk (g_callO hk (hf := by kernel_rfl) (hc := idxS_any l c v _ (hS.rdT hv) hl) (h := ?_));clear hk a;rintro vr w ⟨⟨p, rfl, hp, hp1⟩, hS1⟩ a hk;replace hS := hS.call hS1;clear hS1
  by_cases hin : c ∈ l
  ·have := hp.2 hin
   (repeat' (first|((first|refine wx1 ?_|refine wx2 ?_ ?_<;>intro hp|refine s_end hk ?_)<;>(clear hk a;intro a hk))|((first|refine wx3 ?_;intro w b|refine wx4 ?_;intro w|refine wx5 ?_;intro w v);clear hk hS a;intro hS a hk)|refine wx0 ?_|fail))
   exact done1 hk (h := ⟨by rw [decide_eq_true hin], hS.nil⟩)
  ·have : ¬ 0 ≤ p := fun h => hin (hp.1 h)
   (repeat' (first|((first|refine wx1 ?_|refine wx2 ?_ ?_<;>intro hp|refine s_end hk ?_)<;>(clear hk a;intro a hk))|((first|refine wx3 ?_;intro w b|refine wx4 ?_;intro w|refine wx5 ?_;intro w v);clear hk hS a;intro hS a hk)|refine wx0 ?_|fail))
   exact done1 hk (h := ⟨by rw [decide_eq_false hin], hS.nil⟩)
 refine enter Tryz.func106 rfl Tryz.ntmps106 rfl (fun a hk => ?_);have hS := St.refl w0
 (repeat' (first|((first|refine wx1 ?_|refine wx2 ?_ ?_<;>intro hp|refine s_end hk ?_)<;>(clear hk a;intro a hk))|((first|refine wx3 ?_;intro w b|refine wx4 ?_;intro w|refine wx5 ?_;intro w v);clear hk hS a;intro hS a hk)|refine wx0 ?_|fail))
 refine sg hk (g_callO hk (hf := by kernel_rfl) (hc := con _ (hS.rdT hv)) (h := ?_));clear hk a;rintro _ w ⟨rfl, hS1⟩ a hk;replace hS := hS.call0 hS1;clear hS1
 (repeat' (first|((first|refine wx1 ?_|refine wx2 ?_ ?_<;>intro hp|refine s_end hk ?_)<;>(clear hk a;intro a hk))|((first|refine wx3 ?_;intro w b|refine wx4 ?_;intro w|refine wx5 ?_;intro w v);clear hk hS a;intro hS a hk)|refine wx0 ?_|fail))
 exact done1 hk (h := ⟨rfl, hS.nil⟩)
theorem cloneS_any (l : List ByteArray) (v : Value) (w0 : World) (hv : SlT l v w0) (hl : l.length ≤ 1000) :
  Calls Tryz.prog 79 #[v] w0 (Ret fun v w => St w0 [OwT 9 l v] w) := by
 obtain ⟨ao, c, rfl, hao, _, _⟩ := hv.shape
 refine enter Tryz.func79 rfl Tryz.ntmps79 rfl (fun a hk => ?_);have hS := St.refl w0
 (repeat' (first|((first|refine wx1 ?_|refine wx2 ?_ ?_<;>intro hp|refine s_end hk ?_)<;>(clear hk a;intro a hk))|((first|refine wx3 ?_;intro w b|refine wx4 ?_;intro w|refine wx5 ?_;intro w v);clear hk hS a;intro hS a hk)|refine wx0 ?_|fail))
 refine sg hk (g_eqN hk ?_ (hT := eT rfl));clear hk a;intro a hk
 cases ao with
 | none =>
  obtain ⟨h1, _⟩ := hao rfl
  subst h1
  (repeat' (first|((first|refine wx1 ?_|refine wx2 ?_ ?_<;>intro hp|refine s_end hk ?_)<;>(clear hk a;intro a hk))|((first|refine wx3 ?_;intro w b|refine wx4 ?_;intro w|refine wx5 ?_;intro w v);clear hk hS a;intro hS a hk)|refine wx0 ?_|fail))
  exact done1 hk (h := hS.nilT 9 ByteArray)
 | some ad =>
  (repeat' (first|((first|refine wx1 ?_|refine wx2 ?_ ?_<;>intro hp|refine s_end hk ?_)<;>(clear hk a;intro a hk))|((first|refine wx3 ?_;intro w b|refine wx4 ?_;intro w|refine wx5 ?_;intro w v);clear hk hS a;intro hS a hk)|refine wx0 ?_|fail))
  refine sg hk (g_bs0 ByteArray hS ?_ (hT := eT rfl) (hE := zT rfl));clear hk hS a;intro w v0 hS a hk
  refine sg hk (g_move hk ?_);clear hk a;intro a hk
  refine sg hk (g_appT (xs := ([] : List ByteArray)) (ys := l) hk hS ?_ (hT := eT rfl) (hTx := eT rfl) (hE := zT rfl) (hz := oT rfl) (hzs := rfl) (hs := hS.rdT hv) (hby := bT rfl) (hbytes := by simp only [List.length_nil];omega) (h63 := by simp only [maxLen, List.length_nil];omega));clear hk hS a;intro w v1 hS a hk
  rw [List.nil_append] at hS
  (repeat' (first|((first|refine wx1 ?_|refine wx2 ?_ ?_<;>intro hp|refine s_end hk ?_)<;>(clear hk a;intro a hk))|((first|refine wx3 ?_;intro w b|refine wx4 ?_;intro w|refine wx5 ?_;intro w v);clear hk hS a;intro hS a hk)|refine wx0 ?_|fail))
  exact done1 hk (h := hS)
open Classical in
noncomputable def addC (l : List ByteArray) (c : ByteArray) : List ByteArray := if c ∈ l then l else l ++ [c]
noncomputable def clnC (l : List ByteArray) : List ByteArray := l.foldl addC []
open Classical in
theorem addC_len (l : List ByteArray) (c : ByteArray) : (addC l c).length ≤ l.length + 1 := by
 unfold addC
 split
 ·omega
 ·simp
theorem clnC_snoc (l : List ByteArray) (c : ByteArray) : clnC (l ++ [c]) = addC (clnC l) c := by simp [clnC]
theorem clnC_len (l : List ByteArray) : ∀ i, (clnC (l.take i)).length ≤ i := by
 have : ∀ (l s : List ByteArray), (l.foldl addC s).length ≤ s.length + l.length := by
  intro l
  induction l with
  | nil => intro s;simp
  | cons x l ih =>
   intro s
   have h1 := ih (addC s x)
   have h2 := addC_len s x
   rw [List.foldl_cons, List.length_cons];omega
 intro i
 have := this (l.take i) []
 rw [List.length_take, List.length_nil] at this
 unfold clnC;omega
open Classical in
theorem addC_any (l : List ByteArray) (c : ByteArray) (v : Value) (w0 : World) (hv : SlT l v w0) (hl : l.length ≤ 900) :
  Calls Tryz.prog 107 #[v, .string c] w0 (Ret fun v w => St w0 [OwT 9 (addC l c) v] w) := by
 refine enter Tryz.func107 rfl Tryz.ntmps107 rfl (fun a hk => ?_);have hS := St.refl w0
 (repeat' (first|((first|refine wx1 ?_|refine wx2 ?_ ?_<;>intro hp|refine s_end hk ?_)<;>(clear hk a;intro a hk))|((first|refine wx3 ?_;intro w b|refine wx4 ?_;intro w|refine wx5 ?_;intro w v);clear hk hS a;intro hS a hk)|refine wx0 ?_|fail))
 refine sg hk (g_callO hk (hf := by kernel_rfl) (hc := cloneS_any l v _ (hS.rdT hv) (by omega)) (h := ?_));clear hk a;rintro vn w hS1 a hk;replace hS := hS.call hS1;clear hS1
 (repeat' (first|((first|refine wx1 ?_|refine wx2 ?_ ?_<;>intro hp|refine s_end hk ?_)<;>(clear hk a;intro a hk))|((first|refine wx3 ?_;intro w b|refine wx4 ?_;intro w|refine wx5 ?_;intro w v);clear hk hS a;intro hS a hk)|refine wx0 ?_|fail))
 refine sg hk (g_callO hk (hf := by kernel_rfl) (hc := hasC_any l c vn _ (by first | exact St.rdT hS (by assumption) | exact OwT.rd (hS.rd (A := OwT _ _ _) atx) | assumption) (by omega)) (h := ?_));clear hk a;rintro _ w ⟨rfl, hS1⟩ a hk;replace hS := hS.call0 hS1;clear hS1
 by_cases hin : c ∈ l
 ·have hc : addC l c = l := by unfold addC;rw [if_pos hin]
  rw [hc]
  rw [decide_eq_true hin] at hk
  (repeat' (first|((first|refine wx1 ?_|refine wx2 ?_ ?_<;>intro hp|refine s_end hk ?_)<;>(clear hk a;intro a hk))|((first|refine wx3 ?_;intro w b|refine wx4 ?_;intro w|refine wx5 ?_;intro w v);clear hk hS a;intro hS a hk)|refine wx0 ?_|fail))
  exact done1 hk (h := hS.sb)
 ·have hc : addC l c = l ++ [c] := by unfold addC;rw [if_neg hin]
  rw [hc]
  rw [decide_eq_false hin] at hk
  (repeat' (first|((first|refine wx1 ?_|refine wx2 ?_ ?_<;>intro hp|refine s_end hk ?_)<;>(clear hk a;intro a hk))|((first|refine wx3 ?_;intro w b|refine wx4 ?_;intro w|refine wx5 ?_;intro w v);clear hk hS a;intro hS a hk)|refine wx0 ?_|fail))
  exact done1 hk (h := hS.sb)
theorem clean_any (l : List ByteArray) (v : Value) (w0 : World) (hv : SlT l v w0) (hl : l.length ≤ 900) :
  Calls Tryz.prog 82 #[v] w0 (Ret fun v w => St w0 [OwT 9 (clnC l) v] w) := by
 refine enter Tryz.func82 rfl Tryz.ntmps82 rfl (fun a hk => ?_);have hS := St.refl w0
 (repeat' (first|((first|refine wx1 ?_|refine wx2 ?_ ?_<;>intro hp|refine s_end hk ?_)<;>(clear hk a;intro a hk))|((first|refine wx3 ?_;intro w b|refine wx4 ?_;intro w|refine wx5 ?_;intro w v);clear hk hS a;intro hS a hk)|refine wx0 ?_|fail))
 replace hS := hS.nilT 9 ByteArray
 replace hk := Kn.kp [3, 6, 7, 8] hk
 refine wp_for l.length (fun i v => [(3, v), (8, .int .i64 (i : Int))]) (fun i v => [OwT 9 (clnC (l.take i)) v]) (fun _ _ => True) (.slice none 0 0) hk skx hS.sb trivial ?_
 clear hk hS a
 rintro i vo a w hi hk hS -
 have hcl := clnC_len l i
 by_cases hil : i < l.length
 ·obtain ⟨x, hx⟩ : ∃ x, l[i]? = some x := ⟨_, List.getElem?_eq_getElem hil⟩
  have hv1 := hS.rdT hv
  have hst : clnC (l.take (i + 1)) = addC (clnC (l.take i)) x := by rw [take_snocC hx, clnC_snoc]
  (repeat' (first|((first|refine wx1 ?_|refine wx2 ?_ ?_<;>intro hp|refine s_end hk ?_)<;>(clear hk a;intro a hk))|((first|refine wx3 ?_;intro w b|refine wx4 ?_;intro w|refine wx5 ?_;intro w v);clear hk hS a;intro hS a hk)|refine wx0 ?_|fail))
  refine sg hk (g_callO hk (hf := by kernel_rfl) (hc := addC_any (clnC (l.take i)) x vo _ (by first | exact St.rdT hS (by assumption) | exact OwT.rd (hS.rd (A := OwT _ _ _) atx) | assumption) (by omega)) (h := ?_));clear hk a;rintro vn w hS1 a hk;replace hS := hS.call hS1;clear hS1
  rw [← hst] at hS
  (repeat' (first|((first|refine wx1 ?_|refine wx2 ?_ ?_<;>intro hp|refine s_end hk ?_)<;>(clear hk a;intro a hk))|((first|refine wx3 ?_;intro w b|refine wx4 ?_;intro w|refine wx5 ?_;intro w v);clear hk hS a;intro hS a hk)|refine wx0 ?_|fail))
  exact ⟨hil, _, hk.sd, hS.sb, trivial⟩
 ·have : i = l.length := by omega
  subst this
  rw [List.take_length] at hS
  (repeat' (first|((first|refine wx1 ?_|refine wx2 ?_ ?_<;>intro hp|refine s_end hk ?_)<;>(clear hk a;intro a hk))|((first|refine wx3 ?_;intro w b|refine wx4 ?_;intro w|refine wx5 ?_;intro w v);clear hk hS a;intro hS a hk)|refine wx0 ?_|fail))
  exact done1 hk (h := hS.sb)
end Go.Proofs.YtgklceoodpocaaaGreatDoor
namespace Go.Proofs.YtgklceoodpocaaaGreatDoor
open Go.RowKit
set_option maxRecDepth 100000
attribute [local irreducible] Go.Code.wpIn Go.wpListIn Go.Calls Gives Go.Exit.then Go.Exit.inBlock Done ObxE
open Classical in
theorem has03_any (l : List ByteArray) (c : ByteArray) (v : Value) (w0 : World) (hv : SlT l v w0) (hl : l.length ≤ 100000) :
  Calls Tryz.prog 72 #[v, .string c] w0 (Ret fun v w => v = .bool (decide (c ∈ l)) ∧ St w0 [] w) := by
 refine enter Tryz.func72 rfl Tryz.ntmps72 rfl (fun a hk => ?_);have hS := St.refl w0
 (repeat' (first|((first|refine wx1 ?_|refine wx2 ?_ ?_<;>intro hp|refine s_end hk ?_)<;>(clear hk a;intro a hk))|((first|refine wx3 ?_;intro w b|refine wx4 ?_;intro w|refine wx5 ?_;intro w v);clear hk hS a;intro hS a hk)|refine wx0 ?_|fail))
 replace hk := Kn.kp [1, 7, 8, 9] hk
 refine wp_for l.length (fun i _ => [(9, .int .i64 (i : Int))]) (fun _ _ => []) (fun i _ => c ∉ l.take i) () hk skx hS.sb (by simp) ?_
 clear hk hS a
 rintro i - a w hi hk hS hF
 have hv1 := hS.rdT hv
 by_cases hil : i < l.length
 ·obtain ⟨x, hx⟩ : ∃ x, l[i]? = some x := ⟨_, List.getElem?_eq_getElem hil⟩
  (repeat' (first|((first|refine wx1 ?_|refine wx2 ?_ ?_<;>intro hp|refine s_end hk ?_)<;>(clear hk a;intro a hk))|((first|refine wx3 ?_;intro w b|refine wx4 ?_;intro w|refine wx5 ?_;intro w v);clear hk hS a;intro hS a hk)|refine wx0 ?_|fail))
  ·have e : x = c := by assumption
   refine done1 hk (h := ⟨?_, hS.nil⟩)
   rw [decide_eq_true]
   rw [← e];exact List.mem_of_getElem? hx
  ·have e : ¬ x = c := by assumption
   exact ⟨hil, (), hk.sd, hS.sb, by rw [take_snocC hx, List.mem_append, List.mem_singleton];rintro (h | h);exact hF h;exact e h.symm⟩
 ·have : i = l.length := by omega
  subst this
  rw [List.take_length] at hF
  (repeat' (first|((first|refine wx1 ?_|refine wx2 ?_ ?_<;>intro hp|refine s_end hk ?_)<;>(clear hk a;intro a hk))|((first|refine wx3 ?_;intro w b|refine wx4 ?_;intro w|refine wx5 ?_;intro w v);clear hk hS a;intro hS a hk)|refine wx0 ?_|fail))
  exact done1 hk (h := ⟨by rw [decide_eq_false hF], hS.nil⟩)
def few03 (l : List ByteArray) (n : Nat) : List ByteArray := (l.take n).map (fun c => cutF c 20)
end Go.Proofs.YtgklceoodpocaaaGreatDoor
namespace Go.Proofs.YtgklceoodpocaaaGreatDoor
open Go.RowKit
set_option maxRecDepth 100000
attribute [local irreducible] Go.Code.wpIn Go.wpListIn Go.Calls Gives Go.Exit.then Go.Exit.inBlock Done ObxE
end Go.Proofs.YtgklceoodpocaaaGreatDoor
namespace Go.Proofs.YtgklceoodpocaaaGreatDoor
open Go.RowKit
set_option maxRecDepth 100000
attribute [local irreducible] Go.Code.wpIn Go.wpListIn Go.Calls Gives Go.Exit.then Go.Exit.inBlock Done ObxE
abbrev FlH := Int × Int × ByteArray × ByteArray × ByteArray × Hd × Hd × Hd × Opt
abbrev flV (h : FlH) : Value := .agg (Enc.f h).toArray
def fewA (l : List (ByteArray × ByteArray)) (n : Nat) : List (ByteArray × ByteArray) := (l.take n).map (fun p => (cutF p.1 20, cutF p.2 40))
def nodeF (k : Int) (tag key text : ByteArray) (cl : List ByteArray) (al : List (ByteArray × ByteArray)) (sl : List (ByteArray × Int)) (o : Opt) : Tree :=
 .mk k (cutF tag 20) (cutF key 20) (cutF text 70) (few03 cl 4) (fewA al 4) (few04 sl 4) o []
end Go.Proofs.YtgklceoodpocaaaGreatDoor
namespace Go.Proofs.YtgklceoodpocaaaGreatDoor
open Go.RowKit
set_option maxRecDepth 100000
attribute [local irreducible] Go.Code.wpIn Go.wpListIn Go.Calls Gives Go.Exit.then Go.Exit.inBlock Done ObxE
def in64 (x : Int) : Prop := -9223372036854775808 ≤ x ∧ x ≤ 9223372036854775807
def FlR (w : World) (h : FlH) : Prop := ∃ (dp k : Int) (tag key text : ByteArray) (cl : List ByteArray) (al : List (ByteArray × ByteArray)) (sl : List (ByteArray × Int)) (e lv m d : Int) (p q : Bool) (a1 a2 a3 : Option Addr) (m1 m2 m3 : Nat),
 h = (dp, k, tag, key, text, ⟨a1, cl.length, m1⟩, ⟨a2, al.length, m2⟩, ⟨a3, sl.length, m3⟩, (e, lv, m, d, p, q)) ∧ SlT cl (.slice a1 cl.length m1) w ∧ SlT al (.slice a2 al.length m2) w ∧ SlT sl (.slice a3 sl.length m3) w ∧
 in64 dp ∧ in64 k ∧ in64 e ∧ in64 lv ∧ in64 m ∧ in64 d ∧ ∀ x ∈ sl, in64 x.2
def okN (k : Int) (tag key text : ByteArray) (cl : List ByteArray) (al : List (ByteArray × ByteArray)) (sl : List (ByteArray × Int)) (o : Opt) : Prop :=
 in64 k ∧ tag.size ≤ 20 ∧ key.size ≤ 20 ∧ text.size ≤ 70 ∧ cl.length ≤ 4 ∧ (∀ c ∈ cl, c.size ≤ 20) ∧ al.length ≤ 4 ∧ (∀ x ∈ al, x.1.size ≤ 20 ∧ x.2.size ≤ 40) ∧ sl.length ≤ 4 ∧ (∀ x ∈ sl, x.1.size ≤ 20 ∧ in64 x.2) ∧
 in64 o.1 ∧ in64 o.2.1 ∧ in64 o.2.2.1 ∧ in64 o.2.2.2.1
inductive Small : Tree → Prop where
 | mk {k : Int} {tag key text : ByteArray} {cl : List ByteArray} {al : List (ByteArray × ByteArray)} {sl : List (ByteArray × Int)} {o : Opt} {kids : List Tree} (h : okN k tag key text cl al sl o) (hk : ∀ t ∈ kids, Small t) : Small (.mk k tag key text cl al sl o kids)
mutual
def cnt : Tree → Nat
 | .mk _ _ _ _ _ _ _ _ kids => cntL kids + 1
def cntL : List Tree → Nat
 | [] => 0
 | t :: ts => cnt t + cntL ts
end
structure KS where
 at_ : Nat
 ts : List Tree
 H : List NdH
 a : Option Addr
 c : Nat
end Go.Proofs.YtgklceoodpocaaaGreatDoor
