/- Layer 5: two nodes in hand; numbers put in and taken out. Layer 5: a node leaves its parent, and stands elsewhere. Layer 4: names with values, of both kinds, are set. -/
import Derived.Test.YtbpkddpkcnlmhaaGreatF12
import Derived.Test.YtbpkddpkcnlmhaaGreatF07
set_option linter.all false
namespace Go.Proofs.YtbpkddpkcnlmhaaGreat
open Go.RowKit
set_option maxRecDepth 100000
attribute [local irreducible] Go.Code.wpIn Go.wpListIn Go.Calls Gives Go.Exit.then Go.Exit.inBlock Done ObxE
set_option maxHeartbeats 1000000 in
theorem insI5_any {B : Bs} {w : World} {L : List HP} {xs : List Int} {e : Int} {i : Nat} {v ve : Value} (hS : St B (OwT 3 xs v :: OwT 3 [e] ve :: L) w) (hi : i ≤ xs.length) (hl : xs.length ≤ 1000) :
  Calls Tryz.prog 40 #[v, .int .i64 (i : Int), ve] w (Ret fun v' w' => St B (OwT 3 (insF xs i e) v' :: L) w') := by
 have hx : SlT xs v w := OwT.rd (hS.rd (A := OwT 3 xs v) atx)
 have he : SlT [e] ve w := OwT.rd (hS.rd (A := OwT 3 [e] ve) atx)
 have h1l : ([e] : List Int).length = 1 := rfl
 by_cases hin : i = xs.length
 ·subst hin
  refine enter Tryz.func40 rfl Tryz.ntmps40 rfl (fun a hk => ?_)
  (repeat' (first|((first|refine wx1 ?_|refine wx2 ?_ ?_<;>intro hp|refine s_end hk ?_)<;>(clear hk a;intro a hk))|((first|refine wx3 ?_;intro w b|refine wx4 ?_;intro w|refine wx5 ?_;intro w v);clear hk hS a;intro hS a hk)|refine wx0 ?_|fail))
  refine sg hk (g_partF (i := xs.length) hk ?_ (ht := eT rfl) (hs := (by first | exact St.rdT hS (by assumption) | exact OwT.rd (hS.rd (A := OwT _ _ _) atx) | assumption)) (hE := zT rfl) (hi := by omega));clear hk a;intro vq hvq a hk
  (repeat' (first|((first|refine wx1 ?_|refine wx2 ?_ ?_<;>intro hp|refine s_end hk ?_)<;>(clear hk a;intro a hk))|((first|refine wx3 ?_;intro w b|refine wx4 ?_;intro w|refine wx5 ?_;intro w v);clear hk hS a;intro hS a hk)|refine wx0 ?_|fail))
  refine done1 hk (h := ?_)
  have e1 : insF xs xs.length e = xs ++ [e] := by simp [insF]
  rw [e1]
  exact hS
 ·obtain ⟨b, off, cap, rfl, _, _⟩ := hS.ownCells (E := 3) (xs := xs) At.here (by intro h;subst h;simp at hi hin;exact hin hi)
  obtain ⟨b', off', cap', rfl, _, _⟩ := hS.ownCells (E := 3) (xs := [e]) (At.there At.here) (by simp)
  obtain ⟨vs, hS1, hvl, hnc, hcm, hcl, hvs⟩ := hS.ownPts At.here
  obtain ⟨vs', hS2, hvl', hnc', hcm', hcl', hvs'⟩ := hS1.ownPts (At.there At.here)
  replace hS := hS2
  have hvn : vs ≠ [] := by
   intro h
   rw [h, List.length_nil] at hvl
   have := Nat.le_mul_of_pos_right cap (show 0 < Enc.k Int + 1 by omega)
   omega
  clear hS1 hS2
  by_cases hc : xs.length + 1 ≤ cap
  ·refine enter Tryz.func40 rfl Tryz.ntmps40 rfl (fun a hk => ?_)
   (repeat' (first|((first|refine wx1 ?_|refine wx2 ?_ ?_<;>intro hp|refine s_end hk ?_)<;>(clear hk a;intro a hk))|((first|refine wx3 ?_;intro w b|refine wx4 ?_;intro w|refine wx5 ?_;intro w v);clear hk hS a;intro hS a hk)|refine wx0 ?_|fail))
   refine sg hk (g_partF (i := i) hk ?_ (ht := eT rfl) (hs := (by first | exact St.rdT hS (by assumption) | exact OwT.rd (hS.rd (A := OwT _ _ _) atx) | assumption)) (hE := zT rfl) (hi := by omega));clear hk a;intro vq hvq a hk
   (repeat' (first|((first|refine wx1 ?_|refine wx2 ?_ ?_<;>intro hp|refine s_end hk ?_)<;>(clear hk a;intro a hk))|((first|refine wx3 ?_;intro w b|refine wx4 ?_;intro w|refine wx5 ?_;intro w v);clear hk hS a;intro hS a hk)|refine wx0 ?_|fail))
   refine sg hk (g_capC hk ?_ (ht := eT rfl));clear hk a;intro a hk
   (repeat' (first|((first|refine wx1 ?_|refine wx2 ?_ ?_<;>intro hp|refine s_end hk ?_)<;>(clear hk a;intro a hk))|((first|refine wx3 ?_;intro w b|refine wx4 ?_;intro w|refine wx5 ?_;intro w v);clear hk hS a;intro hS a hk)|refine wx0 ?_|fail))
   refine sg hk (g_slTc (xs.length + 1) (k := Enc.k Int) hk ?_ (ht := eT rfl) (hE := zT rfl) (hp := by omega) (hj := by omega));clear hk a;intro a hk
   (repeat' (first|((first|refine wx1 ?_|refine wx2 ?_ ?_<;>intro hp|refine s_end hk ?_)<;>(clear hk a;intro a hk))|((first|refine wx3 ?_;intro w b|refine wx4 ?_;intro w|refine wx5 ?_;intro w v);clear hk hS a;intro hS a hk)|refine wx0 ?_|fail))
   refine sg hk (g_slFc (i + 1) (k := Enc.k Int) hk ?_ (ht := eT rfl) (hE := zT rfl) (hp := by omega) (him := by omega) (hc := by omega));clear hk a;intro a hk
   (repeat' (first|((first|refine wx1 ?_|refine wx2 ?_ ?_<;>intro hp|refine s_end hk ?_)<;>(clear hk a;intro a hk))|((first|refine wx3 ?_;intro w b|refine wx4 ?_;intro w|refine wx5 ?_;intro w v);clear hk hS a;intro hS a hk)|refine wx0 ?_|fail))
   refine sg hk (g_ovl hk hS ?_ (hf := Tryz.func63) (hname := by kernel_rfl) (hb := by kernel_rfl) (hn := by kernel_rfl) (he := by kernel_rfl) (ht := eT rfl) (hE := zT rfl) (tS := 22) (tR := 4) (hne := hvn));clear hk a;intro a hk
   (repeat' (first|((first|refine wx1 ?_|refine wx2 ?_ ?_<;>intro hp|refine s_end hk ?_)<;>(clear hk a;intro a hk))|((first|refine wx3 ?_;intro w b|refine wx4 ?_;intro w|refine wx5 ?_;intro w v);clear hk hS a;intro hS a hk)|refine wx0 ?_|fail))
   replace hS := hS.sub (.cons (.there .here) (.cons .here .refl))
   refine wp_drawnU1 9 mixed (by kernel_rfl) hk hS ?_;clear hk hS a
   (repeat' (first|(show ObxE _ _ _ _ _ _ _ _ _ (_::_) _ _ _;first|refine ox1 ?_|refine ox2 ?_ ?_<;>intro hp)|fail))
   refine' obe_val (fun us a w hk hd hS => ?_) ?_;rotate_left;focus (have hk := Kn.vw hk vwx;exact g_slFc (i + 1) (k := Enc.k Int) hk (same _ _) (ht := eT rfl) (hE := zT rfl) (hp := by omega) (him := by omega) (hc := by omega))
   (repeat' (first|(show ObxE _ _ _ _ _ _ _ _ _ (_::_) _ _ _;first|refine ox1 ?_|refine ox2 ?_ ?_<;>intro hp)|fail))
   refine' obe_val (fun us a w hk hd hS => ?_) ?_;rotate_left;focus (have hk := Kn.vw hk vwx;exact g_slFc i (k := Enc.k Int) hk (same _ _) (ht := eT rfl) (hE := zT rfl) (hp := by omega) (him := by omega) (hc := by omega))
   (repeat' (first|(show ObxE _ _ _ _ _ _ _ _ _ (_::_) _ _ _;first|refine ox1 ?_|refine ox2 ?_ ?_<;>intro hp)|fail))
   refine' obe_upd (pts b vs 3) (V := fun _ => pts b (splice vs (off + (i + 1) * (Enc.k Int + 1)) (enc (xs.drop i))) 3) (fun us a w X hk hd hS hL => ?_) ?_
   ·have hk := Kn.vw hk vwx
    exact g_copyC (E := 3) (k := Enc.k Int) hk hS (fun w' hS' => hS') (q := xs.length - i) (ht := eT rfl) (hE := zT rfl) (hq := by simp only [Nat.min_def];split <;> omega) (hl := by rw [enc_len, List.length_drop]) (hsrc := Cells.dropT i (pts.block (hS.rd At.here)) hvs) (h1 := enc_one _)
     (hfit := by rw [enc_len, List.length_drop, Nat.add_assoc, ← Nat.add_mul];exact Nat.le_trans (Nat.add_le_add_left (Nat.mul_le_mul_right _ (by omega)) _) hvl)
   (repeat' (first|(show ObxE _ _ _ _ _ _ _ _ _ (_::_) _ _ _;first|refine ox1 ?_|refine ox2 ?_ ?_<;>intro hp)|fail))
   refine obe_nil ⟨rfl, ?_⟩;intro us a w hk hS
   simp only [resE] at hS
   (repeat' (first|((first|refine wx1 ?_|refine wx2 ?_ ?_<;>intro hp|refine s_end hk ?_)<;>(clear hk a;intro a hk))|((first|refine wx3 ?_;intro w b|refine wx4 ?_;intro w|refine wx5 ?_;intro w v);clear hk hS a;intro hS a hk)|refine wx0 ?_|fail))
   refine sg hk (g_slFc i (k := Enc.k Int) hk ?_ (ht := eT rfl) (hE := zT rfl) (hp := by omega) (him := by omega) (hc := by omega));clear hk a;intro a hk
   (repeat' (first|((first|refine wx1 ?_|refine wx2 ?_ ?_<;>intro hp|refine s_end hk ?_)<;>(clear hk a;intro a hk))|((first|refine wx3 ?_;intro w b|refine wx4 ?_;intro w|refine wx5 ?_;intro w v);clear hk hS a;intro hS a hk)|refine wx0 ?_|fail))
   refine sg hk (g_copyC (E := 3) (k := Enc.k Int) hk hS ?_ (q := 1) (ht := eT rfl) (hE := zT rfl) (hq := by simp only [Nat.min_def];split <;> omega) (hl := by rw [Enc.len, Nat.one_mul]) (hsrc := ?_) (h1 := Enc.one e) (hfit := ?_))
   rotate_left
   ·have := Cells.takeT (xs := [e]) 1 (pts.block (hS.rd (A := pts b' vs' 3) atx)) hvs'
    rwa [List.take_of_length_le (by rw [h1l];exact Nat.le_refl 1), enc_single] at this
   ·rw [splice_len, Enc.len, Nat.add_assoc, ← Nat.succ_mul]
    exact Nat.le_trans (Nat.add_le_add_left (Nat.mul_le_mul_right _ (by omega)) _) hvl
   clear hk hS a
   intro w hS a hk
   (repeat' (first|((first|refine wx1 ?_|refine wx2 ?_ ?_<;>intro hp|refine s_end hk ?_)<;>(clear hk a;intro a hk))|((first|refine wx3 ?_;intro w b|refine wx4 ?_;intro w|refine wx5 ?_;intro w v);clear hk hS a;intro hS a hk)|refine wx0 ?_|fail))
   obtain ⟨hl0, hc0⟩ := ins_cells (xs := xs) (i := i) (off := off) (e := e) (vs := vs) (by omega) (Nat.le_trans (Nat.add_le_add_left (Nat.mul_le_mul_right _ hc) _) hvl) (fun j u hj => by
    rw [← enc_take, List.getElem?_take] at hj
    split at hj
    ·exact hvs j u hj
    ·cases hj) (.inl rfl)
   have hF := hS.toOwn (ys := insF xs i e) At.here (by rw [insF_len hi];exact hc) hcm (by rw [hl0];exact hvl) hc0
   rw [insF_len hi] at hF
   exact done1 hk (h := hF.sub (.cons .here Sub.cons_drop))
  ·refine enter Tryz.func40 rfl Tryz.ntmps40 rfl (fun a hk => ?_)
   (repeat' (first|((first|refine wx1 ?_|refine wx2 ?_ ?_<;>intro hp|refine s_end hk ?_)<;>(clear hk a;intro a hk))|((first|refine wx3 ?_;intro w b|refine wx4 ?_;intro w|refine wx5 ?_;intro w v);clear hk hS a;intro hS a hk)|refine wx0 ?_|fail))
   refine sg hk (g_partF (i := i) hk ?_ (ht := eT rfl) (hs := (by first | exact St.rdT hS (by assumption) | exact OwT.rd (hS.rd (A := OwT _ _ _) atx) | assumption)) (hE := zT rfl) (hi := by omega));clear hk a;intro vq hvq a hk
   (repeat' (first|((first|refine wx1 ?_|refine wx2 ?_ ?_<;>intro hp|refine s_end hk ?_)<;>(clear hk a;intro a hk))|((first|refine wx3 ?_;intro w b|refine wx4 ?_;intro w|refine wx5 ?_;intro w v);clear hk hS a;intro hS a hk)|refine wx0 ?_|fail))
   refine sg hk (g_capC hk ?_ (ht := eT rfl));clear hk a;intro a hk
   (repeat' (first|((first|refine wx1 ?_|refine wx2 ?_ ?_<;>intro hp|refine s_end hk ?_)<;>(clear hk a;intro a hk))|((first|refine wx3 ?_;intro w b|refine wx4 ?_;intro w|refine wx5 ?_;intro w v);clear hk hS a;intro hS a hk)|refine wx0 ?_|fail))
   refine sg hk (g_slTc i (k := Enc.k Int) hk ?_ (ht := eT rfl) (hE := zT rfl) (hp := by omega) (hj := by omega));clear hk a;intro a hk
   (repeat' (first|((first|refine wx1 ?_|refine wx2 ?_ ?_<;>intro hp|refine s_end hk ?_)<;>(clear hk a;intro a hk))|((first|refine wx3 ?_;intro w b|refine wx4 ?_;intro w|refine wx5 ?_;intro w v);clear hk hS a;intro hS a hk)|refine wx0 ?_|fail))
   refine sg hk (g_appZ (cs := enc (xs.take i)) (i := i) (q := xs.length + 1 - i) (k := Enc.k Int) hk hS ?_ (hp := by omega) (ht := eT rfl) (htx := iT rfl) (hE := zT rfl) (hz := oT rfl) (hzs := rfl) (hz1 := by decide) (hby := bT rfl) (h0 := by omega) (hc := by omega) (hl := by rw [enc_len, List.length_take, Nat.min_eq_left hi]) (hcs := Cells.takeT i (pts.block (hS.rd (A := pts b vs 3) atx)) hvs) (h1 := enc_one _) (hbytes := by omega) (h63 := by simp only [maxLen];omega))
   clear hk hS a
   intro w b2 c2 zs hg1 hg2 hg3 hg4 hg5 hS a hk
   rw [show i + (xs.length + 1 - i) = xs.length + 1 by omega] at hk hg1
   (repeat' (first|((first|refine wx1 ?_|refine wx2 ?_ ?_<;>intro hp|refine s_end hk ?_)<;>(clear hk a;intro a hk))|((first|refine wx3 ?_;intro w b|refine wx4 ?_;intro w|refine wx5 ?_;intro w v);clear hk hS a;intro hS a hk)|refine wx0 ?_|fail))
   refine sg hk (g_slFc i (k := Enc.k Int) hk ?_ (ht := eT rfl) (hE := zT rfl) (hp := by omega) (him := by omega) (hc := by omega));clear hk a;intro a hk
   (repeat' (first|((first|refine wx1 ?_|refine wx2 ?_ ?_<;>intro hp|refine s_end hk ?_)<;>(clear hk a;intro a hk))|((first|refine wx3 ?_;intro w b|refine wx4 ?_;intro w|refine wx5 ?_;intro w v);clear hk hS a;intro hS a hk)|refine wx0 ?_|fail))
   refine sg hk (g_copyC (E := 3) (k := Enc.k Int) hk hS ?_ (q := 1) (ht := eT rfl) (hE := zT rfl) (hq := by simp only [Nat.min_def];split <;> omega) (hl := by rw [Enc.len, Nat.one_mul]) (hsrc := ?_) (h1 := Enc.one e) (hfit := ?_))
   rotate_left
   ·have := Cells.takeT (xs := [e]) 1 (pts.block (hS.rd (A := pts b' vs' 3) atx)) hvs'
    rwa [List.take_of_length_le (by rw [h1l];exact Nat.le_refl 1), enc_single] at this
   ·rw [Enc.len, Nat.add_assoc, ← Nat.succ_mul, Nat.zero_add, hg3]
    exact Nat.mul_le_mul_right _ (by omega)
   clear hk hS a
   intro w hS a hk
   (repeat' (first|((first|refine wx1 ?_|refine wx2 ?_ ?_<;>intro hp|refine s_end hk ?_)<;>(clear hk a;intro a hk))|((first|refine wx3 ?_;intro w b|refine wx4 ?_;intro w|refine wx5 ?_;intro w v);clear hk hS a;intro hS a hk)|refine wx0 ?_|fail))
   refine wp_drawnU1 9 mixed (by kernel_rfl) hk hS ?_;clear hk hS a
   (repeat' (first|(show ObxE _ _ _ _ _ _ _ _ _ (_::_) _ _ _;first|refine ox1 ?_|refine ox2 ?_ ?_<;>intro hp)|fail))
   refine' obe_val (fun us a w hk hd hS => ?_) ?_;rotate_left;focus (have hk := Kn.vw hk vwx;exact g_slFc (i + 1) (k := Enc.k Int) hk (same _ _) (ht := eT rfl) (hE := zT rfl) (hp := by omega) (him := by omega) (hc := by omega))
   (repeat' (first|(show ObxE _ _ _ _ _ _ _ _ _ (_::_) _ _ _;first|refine ox1 ?_|refine ox2 ?_ ?_<;>intro hp)|fail))
   refine' obe_val (fun us a w hk hd hS => ?_) ?_;rotate_left;focus (have hk := Kn.vw hk vwx;exact g_slFc i (k := Enc.k Int) hk (same _ _) (ht := eT rfl) (hE := zT rfl) (hp := by omega) (him := by omega) (hc := by omega))
   (repeat' (first|(show ObxE _ _ _ _ _ _ _ _ _ (_::_) _ _ _;first|refine ox1 ?_|refine ox2 ?_ ?_<;>intro hp)|fail))
   refine' obe_upd (pts b2 (splice zs (0 + i * (Enc.k Int + 1)) (Enc.f e)) 3) (V := fun _ => pts b2 (splice (splice zs (0 + i * (Enc.k Int + 1)) (Enc.f e)) (0 + (i + 1) * (Enc.k Int + 1)) (enc (xs.drop i))) 3) (fun us a w X hk hd hS hL => ?_) ?_
   ·have hk := Kn.vw hk vwx
    exact g_copyC (E := 3) (k := Enc.k Int) hk hS (fun w' hS' => hS') (q := xs.length - i) (ht := eT rfl) (hE := zT rfl) (hq := by simp only [Nat.min_def];split <;> omega) (hl := by rw [enc_len, List.length_drop]) (hsrc := Cells.dropT i (pts.block (hL.rd (A := pts b vs 3) atx)) hvs) (h1 := enc_one _)
     (hfit := by rw [splice_len, enc_len, List.length_drop, Nat.add_assoc, ← Nat.add_mul, Nat.zero_add, hg3];exact Nat.mul_le_mul_right _ (by omega))
   (repeat' (first|(show ObxE _ _ _ _ _ _ _ _ _ (_::_) _ _ _;first|refine ox1 ?_|refine ox2 ?_ ?_<;>intro hp)|fail))
   refine obe_nil ⟨rfl, ?_⟩;intro us a w hk hS
   simp only [resE] at hS
   (repeat' (first|((first|refine wx1 ?_|refine wx2 ?_ ?_<;>intro hp|refine s_end hk ?_)<;>(clear hk a;intro a hk))|((first|refine wx3 ?_;intro w b|refine wx4 ?_;intro w|refine wx5 ?_;intro w v);clear hk hS a;intro hS a hk)|refine wx0 ?_|fail))
   obtain ⟨hl0, hc0⟩ := ins_cells (xs := xs) (i := i) (off := 0) (e := e) (vs := zs) (by omega) (by rw [Nat.zero_add, hg3];exact Nat.mul_le_mul_right _ hg1) (fun j u hj => by rw [Nat.zero_add];exact hg4 j u hj) (.inr rfl)
   have hF := hS.toOwn (ys := insF xs i e) At.here (by rw [insF_len hi];exact hg1) hg2 (by rw [hl0, Nat.zero_add, hg3];exact Nat.le_refl _) hc0
   rw [insF_len hi] at hF
   exact done1 hk (h := hF.sub (.cons .here (Sub.under Sub.cons_drop)))
set_option maxHeartbeats 1000000 in
theorem idxI5_any (p : Int → Bool) (s : List Int) (f : FuncId) (cap : List Value) (v : Value) {B : Bs} {L : List HP} (w : World) (hS : St B L w) (hv : SlT s v w) (hl : s.length ≤ 1000) (hf : callable Tryz.prog f = true)
  (hc : ∀ (x : Int) (w' : World), St B L w' → Calls Tryz.prog f (.int .i64 x :: cap).toArray w' (Ret fun v w'' => v = .bool (p x) ∧ St w' [] w'')) :
  Calls Tryz.prog 93 #[v, .func (.func f) #[] cap.toArray] w (Ret fun v w' => ∃ r : Int, v = .int .i64 r ∧ (r = -1 ∧ (∀ i (h : i < s.length), p s[i] = false) ∨ ∃ (k : Nat) (h : k < s.length), r = k ∧ (∀ i (h : i < s.length), i < k → p s[i] = false) ∧ p s[k] = true) ∧ St w [] w') := by
 have hS0 := hS
 clear hS
 refine enter Tryz.func93 rfl Tryz.ntmps93 rfl (fun a hk => ?_)
 have hS := St.refl w
 have hw0 : w = w := rfl
 (repeat' (first|((first|refine wx1 ?_|refine wx2 ?_ ?_<;>intro hp|refine s_end hk ?_)<;>(clear hk a;intro a hk))|((first|refine wx3 ?_;intro w b|refine wx4 ?_;intro w|refine wx5 ?_;intro w v);clear hk hS a;intro hS a hk)|refine wx0 ?_|fail))
 replace hk := Kn.kp [0, 1, 7, 8] hk
 refine wp_for s.length (fun i _ => [(8, .int .i64 (i : Int))]) (fun _ _ => []) (fun i _ => ∀ j (h : j < s.length), j < i → p s[j] = false) () hk skx hS (fun j h hj => by omega) ?_
 clear hk hS a
 rintro i - a w1 hi hk hS hF
 by_cases hil : i < s.length
 ·(repeat' (first|((first|refine wx1 ?_|refine wx2 ?_ ?_<;>intro hp|refine s_end hk ?_)<;>(clear hk a;intro a hk))|((first|refine wx3 ?_;intro w b|refine wx4 ?_;intro w|refine wx5 ?_;intro w v);clear hk hS a;intro hS a hk)|refine wx0 ?_|fail))
  refine sg hk (g_callvO (first := []) (cap := cap) hk (hf := hf) (hc := hc _ _ (hS0.call hS)) (h := ?_));clear hk a;rintro _ w2 ⟨rfl, hS1⟩ a hk;replace hS := hS.call0 hS1;clear hS1
  cases hp : p s[i] with
  | true =>
   rw [hp] at hk
   (repeat' (first|((first|refine wx1 ?_|refine wx2 ?_ ?_<;>intro hp|refine s_end hk ?_)<;>(clear hk a;intro a hk))|((first|refine wx3 ?_;intro w b|refine wx4 ?_;intro w|refine wx5 ?_;intro w v);clear hk hS a;intro hS a hk)|refine wx0 ?_|fail))
   exact done1 hk (h := ⟨i, rfl, .inr ⟨i, hil, rfl, hF, hp⟩, hS.nil⟩)
  | false =>
   rw [hp] at hk
   (repeat' (first|((first|refine wx1 ?_|refine wx2 ?_ ?_<;>intro hp|refine s_end hk ?_)<;>(clear hk a;intro a hk))|((first|refine wx3 ?_;intro w b|refine wx4 ?_;intro w|refine wx5 ?_;intro w v);clear hk hS a;intro hS a hk)|refine wx0 ?_|fail))
   refine ⟨hil, (), hk.sd, hS, fun j h hj => ?_⟩
   by_cases e : j = i
   ·subst e;exact hp
   ·exact hF j h (by omega)
 ·(repeat' (first|((first|refine wx1 ?_|refine wx2 ?_ ?_<;>intro hp|refine s_end hk ?_)<;>(clear hk a;intro a hk))|((first|refine wx3 ?_;intro w b|refine wx4 ?_;intro w|refine wx5 ?_;intro w v);clear hk hS a;intro hS a hk)|refine wx0 ?_|fail))
  exact done1 hk (h := ⟨-1, rfl, .inl ⟨rfl, fun i h => hF i h (by omega)⟩, hS.nil⟩)
set_option maxHeartbeats 2000000 in
theorem delI5_any (p : Int → Bool) {s : List Int} (f : FuncId) (cap : List Value) {v : Value} {B : Bs} {L : List HP} {w : World} (hS : St B (OwT 3 s v :: L) w) (hl : s.length ≤ 1000) (hf : callable Tryz.prog f = true)
  (hc : ∀ (x : Int) (w' : World), St B L w' → Calls Tryz.prog f (.int .i64 x :: cap).toArray w' (Ret fun v w'' => v = .bool (p x) ∧ St w' [] w'')) :
  Calls Tryz.prog 73 #[v, .func (.func f) #[] cap.toArray] w (Ret fun v' w' => St B (OwT 3 (s.filter (fun x => !p x)) v' :: L) w') := by
 refine enter Tryz.func73 rfl Tryz.ntmps73 rfl (fun a hk => ?_)
 (repeat' (first|((first|refine wx1 ?_|refine wx2 ?_ ?_<;>intro hp|refine s_end hk ?_)<;>(clear hk a;intro a hk))|((first|refine wx3 ?_;intro w b|refine wx4 ?_;intro w|refine wx5 ?_;intro w v);clear hk hS a;intro hS a hk)|refine wx0 ?_|fail))
 refine sg hk (g_callO hk (hf := by kernel_rfl) (hc := idxI5_any p s f cap v _ (hS.sub Sub.cons_drop) (by first | exact St.rdT hS (by assumption) | exact OwT.rd (hS.rd (A := OwT _ _ _) atx) | assumption) hl hf hc) (h := ?_));clear hk a;rintro vr w ⟨r, rfl, hr, hS1⟩ a hk;replace hS := hS.call hS1;clear hS1
 rcases hr with ⟨rfl, hn⟩ | ⟨k, hk0, rfl, hn, hp⟩
 ·(repeat' (first|((first|refine wx1 ?_|refine wx2 ?_ ?_<;>intro hp|refine s_end hk ?_)<;>(clear hk a;intro a hk))|((first|refine wx3 ?_;intro w b|refine wx4 ?_;intro w|refine wx5 ?_;intro w v);clear hk hS a;intro hS a hk)|refine wx0 ?_|fail))
  rw [filter_none p hn]
  exact done1 hk (h := hS)
 ·(repeat' (first|((first|refine wx1 ?_|refine wx2 ?_ ?_<;>intro hp|refine s_end hk ?_)<;>(clear hk a;intro a hk))|((first|refine wx3 ?_;intro w b|refine wx4 ?_;intro w|refine wx5 ?_;intro w v);clear hk hS a;intro hS a hk)|refine wx0 ?_|fail))
  replace hk := Kn.kp [0, 1, 5, 6] hk
  refine wp_while (fun x : Nat × Nat × List Int => [(5, .int .i64 (x.1 : Int)), (6, .int .i64 (x.2.1 : Int))]) (fun x => OwT 3 x.2.2 v :: L) (fun x => Sieve p s x.2.2 x.1 x.2.1 ∧ x.2.1 ≤ s.length) (fun x => s.length - x.2.1) (k, k + 1, s) hk skx hS ⟨Sieve.start p hk0 hn hp, hk0⟩ ?_
  clear hk hS a hn hp
  rintro ⟨i, j, ys⟩ a w hk hS ⟨hF, hj⟩
  simp only at hk hS hF hj
  have hyl := hF.len
  have hij := hF.le
  by_cases hjl : j < s.length
  ·have hget := hF.get p hjl
   (repeat' (first|((first|refine wx1 ?_|refine wx2 ?_ ?_<;>intro hp|refine s_end hk ?_)<;>(clear hk a;intro a hk))|((first|refine wx3 ?_;intro w b|refine wx4 ?_;intro w|refine wx5 ?_;intro w v);clear hk hS a;intro hS a hk)|refine wx0 ?_|fail))
   refine sg hk (g_callvO (first := []) (cap := cap) hk (hf := hf) (hc := hc s[j] _ (hS.sub Sub.cons_drop)) (h := ?_));clear hk a;rintro _ w2 ⟨rfl, hS1⟩ a hk;replace hS := hS.call0 hS1;clear hS1
   cases hp : p s[j] with
   | true =>
    rw [hp] at hk
    (repeat' (first|((first|refine wx1 ?_|refine wx2 ?_ ?_<;>intro hp|refine s_end hk ?_)<;>(clear hk a;intro a hk))|((first|refine wx3 ?_;intro w b|refine wx4 ?_;intro w|refine wx5 ?_;intro w v);clear hk hS a;intro hS a hk)|refine wx0 ?_|fail))
    exact ⟨(i, j + 1, ys), by simp only;omega, hk.subD (by (repeat (first | exact trivial | refine ⟨rfl, ?_⟩ | refine ⟨trivial, ?_⟩));fail_if_success focus skip), hS.sb, hF.drop_ p hjl hp, hjl⟩
   | false =>
    rw [hp] at hk
    (repeat' (first|((first|refine wx1 ?_|refine wx2 ?_ ?_<;>intro hp|refine s_end hk ?_)<;>(clear hk a;intro a hk))|((first|refine wx3 ?_;intro w b|refine wx4 ?_;intro w|refine wx5 ?_;intro w v);clear hk hS a;intro hS a hk)|refine wx0 ?_|fail))
    exact ⟨(i + 1, j + 1, ys.set i s[j]), by simp only;omega, hk.subD (by (repeat (first | exact trivial | refine ⟨rfl, ?_⟩ | refine ⟨trivial, ?_⟩));fail_if_success focus skip), hS.sb, hF.keep p hjl hp, hjl⟩
  ·have hje : j = s.length := by omega
   subst hje
   have hhd := hF.head
   rw [List.take_length] at hhd
   (repeat' (first|((first|refine wx1 ?_|refine wx2 ?_ ?_<;>intro hp|refine s_end hk ?_)<;>(clear hk a;intro a hk))|((first|refine wx3 ?_;intro w b|refine wx4 ?_;intro w|refine wx5 ?_;intro w v);clear hk hS a;intro hS a hk)|refine wx0 ?_|fail))
   obtain ⟨b, off, c, rfl, _, _⟩ := hS.ownCells (E := 3) (xs := ys) At.here (by intro h;subst h;simp at hyl;omega)
   obtain ⟨vs, hS1, hvl, hnc, hcm, hcl, hvs⟩ := hS.ownPts At.here
   replace hS := hS1
   clear hS1
   have e1 : ys.length * (Enc.k Int + 1) = i * (Enc.k Int + 1) + (ys.length - i) * (Enc.k Int + 1) := by rw [← Nat.add_mul];congr 1;omega
   have e2 : ys.length * (Enc.k Int + 1) ≤ c * (Enc.k Int + 1) := Nat.mul_le_mul_right _ hnc
   refine sg hk (g_slFc i (k := Enc.k Int) hk ?_ (ht := eT rfl) (hE := zT rfl) (hp := rfl) (him := by omega) (hc := by omega));clear hk a;intro a hk
   refine su hk (g_clear (k := Enc.k Int) hk hS ?_ (ht := eT rfl) (hz := oT rfl) (hzs := rfl) (hz1 := by decide) (hfit := by omega))
   clear hk hS a
   intro w zs hzl hS a hk
   (repeat' (first|((first|refine wx1 ?_|refine wx2 ?_ ?_<;>intro hp|refine s_end hk ?_)<;>(clear hk a;intro a hk))|((first|refine wx3 ?_;intro w b|refine wx4 ?_;intro w|refine wx5 ?_;intro w v);clear hk hS a;intro hS a hk)|refine wx0 ?_|fail))
   refine sg hk (g_slTc i (k := Enc.k Int) hk ?_ (ht := eT rfl) (hE := zT rfl) (hp := rfl) (hj := by omega));clear hk a;intro a hk
   (repeat' (first|((first|refine wx1 ?_|refine wx2 ?_ ?_<;>intro hp|refine s_end hk ?_)<;>(clear hk a;intro a hk))|((first|refine wx3 ?_;intro w b|refine wx4 ?_;intro w|refine wx5 ?_;intro w v);clear hk hS a;intro hS a hk)|refine wx0 ?_|fail))
   have hF2 := hS.toTake (ys := ys) At.here (by omega) hnc hcm hvl hzl hvs
   rw [hhd] at hF2
   exact done1 hk (h := hF2)
theorem put_comm {l : List NodeP} {x y : NodeP} (h : x.id ≠ y.id) : putP (putP l x) y = putP (putP l y) x := by
 unfold putP
 rw [List.map_map, List.map_map]
 refine List.map_congr_left fun z _ => ?_
 simp only [Function.comp]
 by_cases h1 : z.id = x.id
 ·rw [if_pos h1, if_neg h, if_neg (fun e => h (h1.symm.trans e)), if_pos h1]
 ·rw [if_neg h1]
  by_cases h2 : z.id = y.id
  ·rw [if_pos h2, if_neg (Ne.symm h)]
  ·rw [if_neg h2, if_neg h1]
theorem put_put {l : List NodeP} {x y : NodeP} (h : x.id = y.id) : putP (putP l x) y = putP l y := by
 unfold putP
 rw [List.map_map]
 refine List.map_congr_left fun z _ => ?_
 simp only [Function.comp]
 by_cases h1 : z.id = x.id
 ·rw [if_pos h1, if_pos h, if_pos (h1.trans h)]
 ·rw [if_neg h1]
theorem put_same {l : List NodeP} (hu : (l.map (·.id)).Nodup) {n : NodeP} (hn : fnP l n.id = some n) : putP l n = l := by
 unfold putP
 conv => rhs;rw [← List.map_id l]
 refine List.map_congr_left fun x hx => ?_
 split
 ·rename_i hxi
  have h2 := fnd_of_mem hu hx
  rw [hxi, hn] at h2
  cases h2
  rfl
 ·rfl
theorem put_out {l : List NodeP} {x : NodeP} {id : Int} (h : x.id ≠ id) : putP (ousP l id) x = ousP (putP l x) id := by
 unfold putP ousP
 induction l with
 | nil => rfl
 | cons z l ih =>
  rw [List.filter_cons, List.map_cons, List.filter_cons]
  by_cases h1 : z.id = id
  ·have hz : ¬ z.id = x.id := fun e => h (e.symm.trans h1)
   have d1 : decide (z.id ≠ id) = false := by simp [h1]
   rw [if_neg hz, d1, if_neg (by decide)]
   exact ih
  ·have d1 : decide (z.id ≠ id) = true := by simpa using h1
   have d2 : decide (x.id ≠ id) = true := by simpa using h
   rw [d1, if_pos rfl, List.map_cons, ih]
   by_cases h2 : z.id = x.id
   ·rw [if_pos h2, d2, if_pos rfl]
   ·rw [if_neg h2, d1, if_pos rfl]
theorem WfD.par_ne {D : DomP} (h : WfD D) {id : Int} {n : NodeP} (hn : D.f id = some n) : n.par ≠ id := fun e => by
 have := depU_some (f := D.f) ⟨h.wf.accU⟩ hn
 rw [e] at this
 omega
section
variable {B : Bs} {w : World} {L L' : List HP} {bl : Int → Nat} {bd bm : Nat} {D : DomP}
abbrev domO2 (bd : Nat) (D : DomP) (bm : Nat) (bl : Int → Nat) (i j : Int) : List HP := [pts bd (domC5 D bm) 55, mapH encI (.map (some bm)) (mapL bl D.l), ndsH bl (ousP (ousP D.l i) j)]
theorem St.outD2 (hS : St B (domL bd D bm bl ++ L) w) (hu : (D.l.map (·.id)).Nodup) {i j : Int} {p n : NodeP} (hp : D.f i = some p) (hn : D.f j = some n) (hij : j ≠ i) :
  St B (nodH (bl i) p :: nodH (bl j) n :: (domO2 bd D bm bl i j ++ L)) w := by
 have h1 := hS.outD hu hp
 have h2 : fnP (ousP D.l i) j = some n := by rw [out_f, if_neg hij];exact hn
 have h3 := h1.out (bl := bl) (l := ousP D.l i) (.there (.there (.there .here))) (out_uni hu i) h2
 exact h3.sub (.cons (.there (.there .here)) (.cons .here (.cons (.there .here) (.cons (.there .here) (.cons .here .refl)))))
theorem nod2 {b c : Nat} {p n : NodeP} {y z : NoA} (h : St B (nodeL b p y ++ (nodeL c n z ++ L)) w) : St B (nodH b p :: nodH c n :: L) w :=
 (nodH.of ((nodH.of h).perm List.perm_middle.symm)).perm (.swap _ _ _)
theorem domL.put2 {i j : Int} {p p' n n' : NodeP} (hu : (D.l.map (·.id)).Nodup) (hp : D.f i = some p) (hn : D.f j = some n) (hij : j ≠ i) (ep : p'.id = i) (en : n'.id = j)
  (hS : St B (nodH (bl i) p' :: nodH (bl j) n' :: (domO2 bd D bm bl i j ++ L)) w) : St B (domL bd { D with l := putP (putP D.l p') n' } bm bl ++ L) w := by
 subst ep en
 have h2 : fnP (ousP D.l p'.id) n'.id = some n := by rw [out_f, if_neg hij];exact hn
 have h3 : St B (ndsH bl (putP (ousP D.l p'.id) n') :: nodH (bl p'.id) p' :: pts bd (domC5 D bm) 55 :: mapH encI (.map (some bm)) (mapL bl D.l) :: L) w :=
  ndsH.put (out_uni hu _) h2 (hS.sub (.cons (.there .here) (.cons (.there (.there (.there .here))) (.cons .here (.cons .here (.cons .here .refl))))))
 rw [put_out hij] at h3
 have h4 : fnP (putP D.l n') p'.id = some p := by rw [fnd_put_some (n := n') (m := n) hn, if_neg (Ne.symm hij)];exact hp
 have h5 : St B (ndsH bl (putP (putP D.l n') p') :: pts bd (domC5 D bm) 55 :: mapH encI (.map (some bm)) (mapL bl D.l) :: L) w :=
  ndsH.put (by rw [put_ids];exact hu) h4 (h3.sub (.cons (.there .here) (.cons .here .refl)))
 rw [put_comm hij] at h5
 show St B (pts bd (domC5 D bm) 55 :: mapH encI (.map (some bm)) (mapL bl (putP (putP D.l p') n')) :: ndsH bl (putP (putP D.l p') n') :: L) w
 rw [mapL_put, mapL_put]
 exact h5.sub (.cons (.there .here) (.cons (.there .here) (.cons .here .refl)))
theorem domL.put1 {id : Int} {n n' : NodeP} (hu : (D.l.map (·.id)).Nodup) (hn : D.f id = some n) (e : n'.id = id) (hS : St B (nodH (bl id) n' :: (domO bd D bm bl id ++ L)) w) : St B (domL bd { D with l := putP D.l n' } bm bl ++ L) w := by
 subst e
 have h1 : St B (ndsH bl (putP D.l n') :: pts bd (domC5 D bm) 55 :: mapH encI (.map (some bm)) (mapL bl D.l) :: L) w :=
  ndsH.put hu hn (hS.sub (.cons .here (.cons (.there (.there .here)) (.cons .here (.cons .here .refl)))))
 show St B (pts bd (domC5 D bm) 55 :: mapH encI (.map (some bm)) (mapL bl (putP D.l n')) :: ndsH bl (putP D.l n') :: L) w
 rw [mapL_put]
 exact h1.sub (.cons (.there .here) (.cons (.there .here) (.cons .here .refl)))
theorem domL.back1 {id : Int} {n : NodeP} (hu : (D.l.map (·.id)).Nodup) (hn : D.f id = some n) (hS : St B (nodH (bl id) n :: (domO bd D bm bl id ++ L)) w) : St B (domL bd D bm bl ++ L) w := by
 have h1 := domL.put1 (n' := n) hu hn (fnd_id hn) hS
 rw [put_same hu (by rw [fnd_id hn];exact hn)] at h1
 exact h1
theorem domL.back2 {i j : Int} {p n : NodeP} (hu : (D.l.map (·.id)).Nodup) (hp : D.f i = some p) (hn : D.f j = some n) (hij : j ≠ i) (hS : St B (nodH (bl i) p :: nodH (bl j) n :: (domO2 bd D bm bl i j ++ L)) w) : St B (domL bd D bm bl ++ L) w := by
 have h1 := domL.put2 hu hp hn hij (fnd_id hp) (fnd_id hn) hS
 have e1 : putP D.l p = D.l := put_same hu (by rw [fnd_id hp];exact hp)
 rw [e1, put_same hu (by rw [fnd_id hn];exact hn)] at h1
 exact h1
end
section
variable {B : Bs} {w : World} {L : List HP} {bd : Nat} {D : DomP} {K : Nat}
theorem insP_11 {parent at_ id : Int} (h : D.f parent = none ∨ D.f id = none) : insP D parent at_ id = (D, 11) := by
 unfold insP
 split
 ·rename_i h1 h2
  rcases h with h | h
  ·rw [h] at h1;cases h1
  ·rw [h] at h2;cases h2
 ·rfl
theorem insP_14 {parent at_ id : Int} {p n : NodeP} (hp : D.f parent = some p) (hn : D.f id = some n) (hk : p.kind ≠ 2) : insP D parent at_ id = (D, 14) := by
 unfold insP
 rw [hp, hn]
 simp only
 rw [if_pos hk]
theorem insP_1 {parent at_ id : Int} {p n : NodeP} (hp : D.f parent = some p) (hn : D.f id = some n) (hk : p.kind = 2) (h : id = 0 ∨ n.par ≠ -1 ∨ Win D.f id parent ∨ at_ < 0 ∨ at_ > p.kids.length) : insP D parent at_ id = (D, 1) := by
 unfold insP
 rw [hp, hn]
 simp only
 rw [if_neg (fun h => h hk), if_pos h]
theorem insP_0 {parent at_ id : Int} {p n : NodeP} (hp : D.f parent = some p) (hn : D.f id = some n) (hk : p.kind = 2) (h : ¬ (id = 0 ∨ n.par ≠ -1 ∨ Win D.f id parent ∨ at_ < 0 ∨ at_ > p.kids.length)) :
  insP D parent at_ id = ({ D with l := putP (putP D.l { p with kids := insF p.kids at_.toNat id }) { n with par := parent } }, 0) := by
 unfold insP
 rw [hp, hn]
 simp only
 rw [if_neg (fun h => h hk), if_neg h]
set_option maxHeartbeats 8000000 in
theorem ins5_any (parent at_ id : Int) (hW : WfD D) (hb : Bnd K D) (hK : K ≤ 800) (hS : St B (domH bd D :: L) w) :
  Calls Tryz.prog 23 #[pA bd, .int .i64 parent, .int .i64 at_, .int .i64 id] w (Ret fun r w' => r = .int .i64 (insP D parent at_ id).2 ∧ St B (domH bd (insP D parent at_ id).1 :: L) w') := by
 obtain ⟨bm, bl, hS1⟩ := hS.dom (bd := bd) (D := D) .here
 clear hS
 have hS := hS1
 clear hS1
 have hback : ∀ {w : World}, St B (domL bd D bm bl ++ L) w → St B (domH bd D :: L) w := fun h => domH.of h
 refine enter Tryz.func23 rfl Tryz.ntmps23 rfl (fun a hk => ?_)
 (repeat' (first|((first|refine wx1 ?_|refine wx2 ?_ ?_<;>intro hp|refine s_end hk ?_)<;>(clear hk a;intro a hk))|((first|refine wx3 ?_;intro w b|refine wx4 ?_;intro w|refine wx5 ?_;intro w v);clear hk hS a;intro hS a hk)|refine wx0 ?_|fail))
 refine wp_drawn 14 mixed (by kernel_rfl) hk hS ?_;clear hk hS a
 (repeat' (first|(show ObxE _ _ _ _ _ _ _ _ _ (_::_) _ _ _;first|refine ox1 ?_|refine ox2 ?_ ?_<;>intro hp)|fail))
 refine' obe_val (fun us a w hk hd hS => ?_) ?_;rotate_left;focus (have hk := Kn.vw hk vwx;exact g_lk5 hk (hS.rd (A := mapH encI (.map (some bm)) (mapL bl D.l)) atx) (same _ _))
 (repeat' (first|(show ObxE _ _ _ _ _ _ _ _ _ (_::_) _ _ _;first|refine ox1 ?_|refine ox2 ?_ ?_<;>intro hp)|fail))
 refine' obe_val (fun us a w hk hd hS => ?_) ?_;rotate_left;focus (have hk := Kn.vw hk vwx;exact g_lk5 hk (hS.rd (A := mapH encI (.map (some bm)) (mapL bl D.l)) atx) (same _ _))
 (repeat' (first|(show ObxE _ _ _ _ _ _ _ _ _ (_::_) _ _ _;first|refine ox1 ?_|refine ox2 ?_ ?_<;>intro hp)|fail))
 refine obe_nil ⟨rfl, ?_⟩;intro us a w hk hS
 replace hk := Kn.kp [0, 1, 2, 3, 9, 10] hk
 simp only [HV.of] at hk
 simp only [resE, List.nil_append] at hS
 cases hp : D.f parent with
 | none =>
  rw [insP_11 (.inl hp)]
  rw [pO_none hp] at hk
  (repeat' (first|((first|refine wx1 ?_|refine wx2 ?_ ?_<;>intro hp|refine s_end hk ?_)<;>(clear hk a;intro a hk))|((first|refine wx3 ?_;intro w b|refine wx4 ?_;intro w|refine wx5 ?_;intro w v);clear hk hS a;intro hS a hk)|refine wx0 ?_|fail))
  refine sg hk (g_pnE hk ?_ (by kernel_rfl));clear hk a;intro a hk
  simp only [Option.isNone_none] at hk
  (repeat' (first|((first|refine wx1 ?_|refine wx2 ?_ ?_<;>intro hp|refine s_end hk ?_)<;>(clear hk a;intro a hk))|((first|refine wx3 ?_;intro w b|refine wx4 ?_;intro w|refine wx5 ?_;intro w v);clear hk hS a;intro hS a hk)|refine wx0 ?_|fail))
  exact done1 hk (h := ⟨rfl, hback hS⟩)
 | some p =>
  rw [pO_some hp] at hk
  cases hn : D.f id with
  | none =>
   rw [insP_11 (.inr hn)]
   rw [pO_none hn] at hk
   (repeat' (first|((first|refine wx1 ?_|refine wx2 ?_ ?_<;>intro hp|refine s_end hk ?_)<;>(clear hk a;intro a hk))|((first|refine wx3 ?_;intro w b|refine wx4 ?_;intro w|refine wx5 ?_;intro w v);clear hk hS a;intro hS a hk)|refine wx0 ?_|fail))
   refine sg hk (g_pnE hk ?_ (by kernel_rfl));clear hk a;intro a hk
   simp only [Option.isNone_some] at hk
   (repeat' (first|((first|refine wx1 ?_|refine wx2 ?_ ?_<;>intro hp|refine s_end hk ?_)<;>(clear hk a;intro a hk))|((first|refine wx3 ?_;intro w b|refine wx4 ?_;intro w|refine wx5 ?_;intro w v);clear hk hS a;intro hS a hk)|refine wx0 ?_|fail))
   refine sg hk (g_pnE hk ?_ (by kernel_rfl));clear hk a;intro a hk
   simp only [Option.isNone_none] at hk
   (repeat' (first|((first|refine wx1 ?_|refine wx2 ?_ ?_<;>intro hp|refine s_end hk ?_)<;>(clear hk a;intro a hk))|((first|refine wx3 ?_;intro w b|refine wx4 ?_;intro w|refine wx5 ?_;intro w v);clear hk hS a;intro hS a hk)|refine wx0 ?_|fail))
   exact done1 hk (h := ⟨rfl, hback hS⟩)
  | some n =>
   rw [pO_some hn] at hk
   (repeat' (first|((first|refine wx1 ?_|refine wx2 ?_ ?_<;>intro hp|refine s_end hk ?_)<;>(clear hk a;intro a hk))|((first|refine wx3 ?_;intro w b|refine wx4 ?_;intro w|refine wx5 ?_;intro w v);clear hk hS a;intro hS a hk)|refine wx0 ?_|fail))
   refine sg hk (g_pnE hk ?_ (by kernel_rfl));clear hk a;intro a hk
   simp only [Option.isNone_some] at hk
   (repeat' (first|((first|refine wx1 ?_|refine wx2 ?_ ?_<;>intro hp|refine s_end hk ?_)<;>(clear hk a;intro a hk))|((first|refine wx3 ?_;intro w b|refine wx4 ?_;intro w|refine wx5 ?_;intro w v);clear hk hS a;intro hS a hk)|refine wx0 ?_|fail))
   refine sg hk (g_pnE hk ?_ (by kernel_rfl));clear hk a;intro a hk
   simp only [Option.isNone_some] at hk
   have hDR : DomR bd D bm bl w := hS.domR
   obtain ⟨a1, c1, a2, c2, a3, c3, a4, c4, h0, -⟩ := nodH.get (hDR.nd hp)
   obtain ⟨a5, c5, a6, c6, a7, c7, a8, c8, h5, -⟩ := nodH.get (hDR.nd hn)
   simp only [nodC] at h0 h5
   by_cases hk2 : p.kind = 2
   ·by_cases i0 : id = 0
    ·rw [insP_1 hp hn hk2 (.inl i0)]
     (repeat' (first|((first|refine wx1 ?_|refine wx2 ?_ ?_<;>intro hp|refine s_end hk ?_)<;>(clear hk a;intro a hk))|((first|refine wx3 ?_;intro w b|refine wx4 ?_;intro w|refine wx5 ?_;intro w v);clear hk hS a;intro hS a hk)|refine wx0 ?_|fail))
     exact done1 hk (h := ⟨rfl, hback hS⟩)
    ·by_cases i1 : n.par = -1
     ·(repeat' (first|((first|refine wx1 ?_|refine wx2 ?_ ?_<;>intro hp|refine s_end hk ?_)<;>(clear hk a;intro a hk))|((first|refine wx3 ?_;intro w b|refine wx4 ?_;intro w|refine wx5 ?_;intro w v);clear hk hS a;intro hS a hk)|refine wx0 ?_|fail))
      refine sg hk (g_callO hk (hf := by kernel_rfl) (hc := within5_any (bd := bd) (bm := bm) (bl := bl) (D := D) parent id _ hS.domR hW) (h := ?_));clear hk a;rintro vr w ⟨bw, rfl, hbw, hS1⟩ a hk;replace hS := hS.call hS1;clear hS1
      rw [List.nil_append] at hS
      clear h0 h5 hDR
      have hDR : DomR bd D bm bl w := hS.domR
      obtain ⟨a1, c1, a2, c2, a3, c3, a4, c4, h0, h1, h2, h3, h4⟩ := nodH.get (hDR.nd hp)
      simp only [nodC] at h0
      cases bw with
      | true =>
       rw [insP_1 hp hn hk2 (.inr (.inr (.inl (hbw.1 rfl))))]
       (repeat' (first|((first|refine wx1 ?_|refine wx2 ?_ ?_<;>intro hp|refine s_end hk ?_)<;>(clear hk a;intro a hk))|((first|refine wx3 ?_;intro w b|refine wx4 ?_;intro w|refine wx5 ?_;intro w v);clear hk hS a;intro hS a hk)|refine wx0 ?_|fail))
       exact done1 hk (h := ⟨rfl, hback hS⟩)
      | false =>
       have hnw : ¬ Win D.f id parent := fun h => by have := hbw.2 h;cases this
       by_cases i2 : at_ < 0
       ·rw [insP_1 hp hn hk2 (.inr (.inr (.inr (.inl i2))))]
        (repeat' (first|((first|refine wx1 ?_|refine wx2 ?_ ?_<;>intro hp|refine s_end hk ?_)<;>(clear hk a;intro a hk))|((first|refine wx3 ?_;intro w b|refine wx4 ?_;intro w|refine wx5 ?_;intro w v);clear hk hS a;intro hS a hk)|refine wx0 ?_|fail))
        exact done1 hk (h := ⟨rfl, hback hS⟩)
       ·by_cases i3 : at_ > p.kids.length
        ·rw [insP_1 hp hn hk2 (.inr (.inr (.inr (.inr i3))))]
         (repeat' (first|((first|refine wx1 ?_|refine wx2 ?_ ?_<;>intro hp|refine s_end hk ?_)<;>(clear hk a;intro a hk))|((first|refine wx3 ?_;intro w b|refine wx4 ?_;intro w|refine wx5 ?_;intro w v);clear hk hS a;intro hS a hk)|refine wx0 ?_|fail))
         exact done1 hk (h := ⟨rfl, hback hS⟩)
        ·rw [insP_0 hp hn hk2 (by simp only [not_or];exact ⟨i0, fun h => h i1, hnw, i2, i3⟩)]
         clear h0 h1 h2 h3 h4 hDR
         have hne : id ≠ parent := fun e => hnw (by rw [e];exact .refl hp)
         have bk := (hb.get hp).kids
         obtain ⟨i, rfl⟩ : ∃ i : Nat, at_ = i := ⟨at_.toNat, by omega⟩
         rw [Int.toNat_natCast]
         have hS1 := hS.outD2 hW.uni hp hn hne
         clear hS
         obtain ⟨a1, c1, a2, c2, a3, c3, a4, c4, hS⟩ := hS1.nod (b := bl parent) (n := p) .here
         clear hS1
         obtain ⟨a5, c5, a6, c6, a7, c7, a8, c8, hS1⟩ := hS.nod (b := bl id) (n := n) (by simp only [nodeL, List.cons_append, List.nil_append];exact atx)
         clear hS
         have hS := hS1
         clear hS1
         simp only [nodeL, nodC, domO2, domC5, List.cons_append, List.nil_append] at hS
         (repeat' (first|((first|refine wx1 ?_|refine wx2 ?_ ?_<;>intro hp|refine s_end hk ?_)<;>(clear hk a;intro a hk))|((first|refine wx3 ?_;intro w b|refine wx4 ?_;intro w|refine wx5 ?_;intro w v);clear hk hS a;intro hS a hk)|refine wx0 ?_|fail))
         rename Value => v73
         refine sg hk (g_callO hk (hf := by kernel_rfl) (hc := insI5_any (xs := p.kids) (e := id) (i := i) (hS.sub (.cons atx (.cons atx (by repeat (first | exact Sub.refl | apply Sub.under))))) (by omega) (by omega)) (h := ?_));clear hk hS a;intro vn w hS a hk
         obtain ⟨aovn, cvn, hshp, _⟩ := (OwT.rd (hS.rd (A := OwT 3 _ vn) atx)).shape;subst hshp
         (repeat' (first|((first|refine wx1 ?_|refine wx2 ?_ ?_<;>intro hp|refine s_end hk ?_)<;>(clear hk a;intro a hk))|((first|refine wx3 ?_;intro w b|refine wx4 ?_;intro w|refine wx5 ?_;intro w v);clear hk hS a;intro hS a hk)|refine wx0 ?_|fail))
         refine done1 hk (h := ⟨rfl, domH.of (bm := bm) (bl := bl) (domL.put2 (p' := { p with kids := insF p.kids i id }) (n' := { n with par := parent }) hW.uni hp hn hne (fnd_id hp :) (fnd_id hn :) (nod2 (y := ((a1, c1), (a2, c2), (a3, c3), (aovn, cvn))) (z := ((a5, c5), (a6, c6), (a7, c7), (a8, c8))) ?_))⟩)
         simp only [nodeL, nodC, domO2, domC5, List.cons_append, List.nil_append]
         exact hS.sub (.cons atx (.cons atx (.cons atx (.cons atx (.cons atx (.cons atx (.cons atx (.cons atx (.cons atx (.cons atx (.cons atx (.cons atx (.cons atx sbx)))))))))))))
     ·rw [insP_1 hp hn hk2 (.inr (.inl i1))]
      (repeat' (first|((first|refine wx1 ?_|refine wx2 ?_ ?_<;>intro hp|refine s_end hk ?_)<;>(clear hk a;intro a hk))|((first|refine wx3 ?_;intro w b|refine wx4 ?_;intro w|refine wx5 ?_;intro w v);clear hk hS a;intro hS a hk)|refine wx0 ?_|fail))
      exact done1 hk (h := ⟨rfl, hback hS⟩)
   ·rw [insP_14 hp hn hk2]
    (repeat' (first|((first|refine wx1 ?_|refine wx2 ?_ ?_<;>intro hp|refine s_end hk ?_)<;>(clear hk a;intro a hk))|((first|refine wx3 ?_;intro w b|refine wx4 ?_;intro w|refine wx5 ?_;intro w v);clear hk hS a;intro hS a hk)|refine wx0 ?_|fail))
    exact done1 hk (h := ⟨rfl, hback hS⟩)
end
end Go.Proofs.YtbpkddpkcnlmhaaGreat
namespace Go.Proofs.YtbpkddpkcnlmhaaGreat
open Go.RowKit
set_option maxRecDepth 100000
attribute [local irreducible] Go.Code.wpIn Go.wpListIn Go.Calls Gives Go.Exit.then Go.Exit.inBlock Done ObxE
section
variable {a : Act} {w : World} {n : Nat} {l : List (Nat × Value)} {df : List Deferred}
 {dst : Option Nat} {ty : TypeId} {pos : String} {af : Array Edge} {g : Option (Nat × Bool)} {R : Value → World → Prop}
theorem g_lk5S {x y : Operand} {v : Value} {id : Int} {bl : Int → Nat} {ns : List NodeP} {m : NodeP} (hk : Kn df n a l) (hm : (mapH encI v (mapL bl ns)).rd w) (hn : fnP ns id = some m) (h : R (pA (bl id)) w)
  (hx : ev l x = some v := by rfl) (hy : ev l y = some (.int .i64 id) := by rfl) : Gives Tryz.prog ⟨dst, .lookup 53 x y false, ty, pos, af, g⟩ a w R :=
 g_lk5 hk hm (by rw [pO_some (f := fnP ns) hn];exact h) hx hy
theorem g_lk5N {x y : Operand} {v : Value} {id : Int} {bl : Int → Nat} {ns : List NodeP} (hk : Kn df n a l) (hm : (mapH encI v (mapL bl ns)).rd w) (hn : fnP ns id = none) (h : R (.pointer none) w)
  (hx : ev l x = some v := by rfl) (hy : ev l y = some (.int .i64 id) := by rfl) : Gives Tryz.prog ⟨dst, .lookup 53 x y false, ty, pos, af, g⟩ a w R :=
 g_lk5 hk hm (by rw [pO_none (f := fnP ns) hn];exact h) hx hy
end
theorem leave1_any (x : Int) (b3 b : Nat) (n : NodeP) (y : NoA) (w0 : World) (h1 : (pts b3 [pA b] 56).rd w0) (h2 : (pts b (nodC n y) 63).rd w0) :
  Calls Tryz.prog 94 #[.int .i64 x, pA b3] w0 (Ret fun v w => v = .bool (decide (x = n.id)) ∧ St w0 [] w) := by
 simp only [nodC] at h2
 refine enter Tryz.func94 rfl Tryz.ntmps94 rfl (fun a hk => ?_);have hS := St.refl w0
 (repeat' (first|((first|refine wx1 ?_|refine wx2 ?_ ?_<;>intro hp|refine s_end hk ?_)<;>(clear hk a;intro a hk))|((first|refine wx3 ?_;intro w b|refine wx4 ?_;intro w|refine wx5 ?_;intro w v);clear hk hS a;intro hS a hk)|refine wx0 ?_|fail))
 ·exact done1 hk (h := ⟨by rw [decide_eq_true (by assumption)], hS.nil⟩)
 ·exact done1 hk (h := ⟨by rw [decide_eq_false (by assumption)], hS.nil⟩)
section
variable {B : Bs} {w : World} {L : List HP} {bd bm : Nat} {bl : Int → Nat} {D : DomP} {K : Nat}
theorem wo_eq (l : List Int) (id : Int) : l.filter (fun x => !decide (x = id)) = woP l id := by
 unfold woP
 refine List.filter_congr fun x _ => ?_
 simp
set_option maxHeartbeats 8000000 in
theorem leave5_any {id : Int} {n : NodeP} (hW : WfD D) (hb : Bnd K D) (hK : K ≤ 800) (hn : D.f id = some n) (hS : St B (domL bd D bm bl ++ L) w) :
  Calls Tryz.prog 75 #[pA bd, pA (bl id)] w (Ret fun _ w' => St B (domL bd { D with l := leaP D.l n } bm bl ++ L) w') := by
 have hne : id ≠ n.par := fun e => hW.par_ne hn e.symm
 cases hp : D.f n.par with
 | none =>
  have e : leaP D.l n = D.l := by unfold leaP;rw [show fnP D.l n.par = none from hp]
  rw [e]
  have hS1 := hS.outD hW.uni hn
  clear hS
  obtain ⟨a1, c1, a2, c2, a3, c3, a4, c4, hS⟩ := hS1.nod (b := bl id) (n := n) .here
  clear hS1
  simp only [nodeL, nodC, domO, domC5, List.cons_append, List.nil_append] at hS
  refine enter Tryz.func75 rfl Tryz.ntmps75 rfl (fun a hk => ?_)
  (repeat' (first|((first|refine wx1 ?_|refine wx2 ?_ ?_<;>intro hp|refine s_end hk ?_)<;>(clear hk a;intro a hk))|((first|refine wx3 ?_;intro w b|refine wx4 ?_;intro w|refine wx5 ?_;intro w v);clear hk hS a;intro hS a hk)|refine wx0 ?_|fail))
  refine wp_drawn 9 mixed (by kernel_rfl) hk hS ?_;clear hk hS a
  (repeat' (first|(show ObxE _ _ _ _ _ _ _ _ _ (_::_) _ _ _;first|refine ox1 ?_|refine ox2 ?_ ?_<;>intro hp)|fail))
  refine' obe_val (fun us a w hk hd hS => ?_) ?_;rotate_left;focus (have hk := Kn.vw hk vwx;exact g_lk5N hk (hS.rd (A := mapH encI (.map (some bm)) (mapL bl D.l)) atx) hp (same _ _))
  refine obe_nil ⟨rfl, ?_⟩;intro us a w hk hS
  (repeat' (first|((first|refine wx1 ?_|refine wx2 ?_ ?_<;>intro hp|refine s_end hk ?_)<;>(clear hk a;intro a hk))|((first|refine wx3 ?_;intro w b|refine wx4 ?_;intro w|refine wx5 ?_;intro w v);clear hk hS a;intro hS a hk)|refine wx0 ?_|fail))
  refine sg hk (g_pnN hk ?_ (by kernel_rfl));clear hk a;intro a hk
  simp only [Option.isNone_none, Bool.not_true] at hk
  (repeat' (first|((first|refine wx1 ?_|refine wx2 ?_ ?_<;>intro hp|refine s_end hk ?_)<;>(clear hk a;intro a hk))|((first|refine wx3 ?_;intro w b|refine wx4 ?_;intro w|refine wx5 ?_;intro w v);clear hk hS a;intro hS a hk)|refine wx0 ?_|fail))
  refine done0n hk (h := domL.back1 hW.uni hn (nodH.of (y := ((a1, c1), (a2, c2), (a3, c3), (a4, c4))) (L := domO bd D bm bl id ++ L) ?_))
  simp only [nodeL, nodC, domO, domC5, List.cons_append, List.nil_append]
  exact hS.sub (.cons atx (.cons atx (.cons atx (.cons atx (.cons atx (.cons atx (.cons atx (.cons atx sbx))))))))
 | some p =>
  have bk := (hb.get hp).kids
  have e : leaP D.l n = putP D.l { p with kids := woP p.kids n.id } := by unfold leaP;rw [show fnP D.l n.par = some p from hp]
  rw [e]
  have hS1 := hS.outD2 hW.uni hp hn hne
  clear hS
  obtain ⟨a1, c1, a2, c2, a3, c3, a4, c4, hS⟩ := hS1.nod (b := bl n.par) (n := p) .here
  clear hS1
  obtain ⟨a5, c5, a6, c6, a7, c7, a8, c8, hS1⟩ := hS.nod (b := bl id) (n := n) (by simp only [nodeL, List.cons_append, List.nil_append];exact atx)
  clear hS
  have hS := hS1
  clear hS1
  simp only [nodeL, nodC, domO2, domC5, List.cons_append, List.nil_append] at hS
  refine enter Tryz.func75 rfl Tryz.ntmps75 rfl (fun a hk => ?_)
  (repeat' (first|((first|refine wx1 ?_|refine wx2 ?_ ?_<;>intro hp|refine s_end hk ?_)<;>(clear hk a;intro a hk))|((first|refine wx3 ?_;intro w b|refine wx4 ?_;intro w|refine wx5 ?_;intro w v);clear hk hS a;intro hS a hk)|refine wx0 ?_|fail))
  rename Nat => b3
  refine wp_drawn 9 mixed (by kernel_rfl) hk hS ?_;clear hk hS a
  (repeat' (first|(show ObxE _ _ _ _ _ _ _ _ _ (_::_) _ _ _;first|refine ox1 ?_|refine ox2 ?_ ?_<;>intro hp)|fail))
  refine' obe_val (fun us a w hk hd hS => ?_) ?_;rotate_left;focus (have hk := Kn.vw hk vwx;exact g_lk5S hk (hS.rd (A := mapH encI (.map (some bm)) (mapL bl D.l)) atx) hp (same _ _))
  refine obe_nil ⟨rfl, ?_⟩;intro us a w hk hS
  (repeat' (first|((first|refine wx1 ?_|refine wx2 ?_ ?_<;>intro hp|refine s_end hk ?_)<;>(clear hk a;intro a hk))|((first|refine wx3 ?_;intro w b|refine wx4 ?_;intro w|refine wx5 ?_;intro w v);clear hk hS a;intro hS a hk)|refine wx0 ?_|fail))
  refine sg hk (g_pnN hk ?_ (by kernel_rfl));clear hk a;intro a hk
  simp only [Option.isNone_some, Bool.not_false] at hk
  (repeat' (first|((first|refine wx1 ?_|refine wx2 ?_ ?_<;>intro hp|refine s_end hk ?_)<;>(clear hk a;intro a hk))|((first|refine wx3 ?_;intro w b|refine wx4 ?_;intro w|refine wx5 ?_;intro w v);clear hk hS a;intro hS a hk)|refine wx0 ?_|fail))
  refine sg hk (g_callO hk (hf := by kernel_rfl) (hc := delI5_any (fun x => decide (x = n.id)) (s := p.kids) 94 [pA b3] (hS.sub (.cons atx sbx)) (by omega) (by kernel_rfl) (fun x w' h => leave1_any x b3 (bl id) n ((a5, c5), (a6, c6), (a7, c7), (a8, c8)) w' (h.rd atx) (h.rd atx))) (h := ?_));clear hk hS a;intro vn w hS a hk
  rw [wo_eq] at hS
  obtain ⟨aovn, cvn, hshp, _⟩ := (OwT.rd (hS.rd (A := OwT 3 _ vn) atx)).shape;subst hshp
  (repeat' (first|((first|refine wx1 ?_|refine wx2 ?_ ?_<;>intro hp|refine s_end hk ?_)<;>(clear hk a;intro a hk))|((first|refine wx3 ?_;intro w b|refine wx4 ?_;intro w|refine wx5 ?_;intro w v);clear hk hS a;intro hS a hk)|refine wx0 ?_|fail))
  refine done0n hk (h := ?_)
  have h2 := domL.put2 (p' := { p with kids := woP p.kids n.id }) (n' := n) hW.uni hp hn hne (fnd_id hp :) (fnd_id hn :) (L := L) (bd := bd) (bm := bm) (bl := bl) (nod2 (y := ((a1, c1), (a2, c2), (a3, c3), (aovn, cvn))) (z := ((a5, c5), (a6, c6), (a7, c7), (a8, c8))) (by
   simp only [nodeL, nodC, domO2, domC5, List.cons_append, List.nil_append]
   exact hS.sub (.cons atx (.cons atx (.cons atx (.cons atx (.cons atx (.cons atx (.cons atx (.cons atx (.cons atx (.cons atx (.cons atx (.cons atx (.cons atx sbx)))))))))))))))
  rw [put_same (l := putP D.l _) (by rw [put_ids];exact hW.uni) (by rw [fnd_put_some (n := { p with kids := woP p.kids n.id }) (m := p) (by show fnP D.l p.id = _;rw [fnd_id hp];exact hp), if_neg (by show n.id ≠ p.id;rw [fnd_id hp, fnd_id hn];exact hne), fnd_id hn];exact hn)] at h2
  exact h2
theorem movP_11 {id at_ : Int} (h : D.f id = none) : movDP D id at_ = (D, 11) := by unfold movDP; rw [h]
theorem movP_1 {id at_ : Int} {n : NodeP} (hn : D.f id = some n) (h : D.f n.par = none) : movDP D id at_ = (D, 1) := by unfold movDP; rw [hn]; simp only; rw [h]
theorem movP_2 {id at_ : Int} {n p : NodeP} (hn : D.f id = some n) (hp : D.f n.par = some p) (h : at_ < 0 ∨ at_ ≥ p.kids.length) : movDP D id at_ = (D, 1) := by unfold movDP; rw [hn]; simp only; rw [hp]; simp only; rw [if_pos h]
theorem movP_0 {id at_ : Int} {n p : NodeP} (hn : D.f id = some n) (hp : D.f n.par = some p) (h : ¬ (at_ < 0 ∨ at_ ≥ p.kids.length)) : movDP D id at_ = ({ D with l := putP D.l { p with kids := insF (woP p.kids id) at_.toNat id } }, 0) := by unfold movDP; rw [hn]; simp only; rw [hp]; simp only; rw [if_neg h]
set_option maxHeartbeats 8000000 in
theorem move5_any (id at_ : Int) (hW : WfD D) (hb : Bnd K D) (hK : K ≤ 800) (hS : St B (domH bd D :: L) w) :
  Calls Tryz.prog 52 #[pA bd, .int .i64 id, .int .i64 at_] w (Ret fun r w' => r = .int .i64 (movDP D id at_).2 ∧ St B (domH bd (movDP D id at_).1 :: L) w') := by
 obtain ⟨bm, bl, hS1⟩ := hS.dom (bd := bd) (D := D) .here
 clear hS
 have hS := hS1
 clear hS1
 have hback : ∀ {w : World}, St B (domL bd D bm bl ++ L) w → St B (domH bd D :: L) w := fun h => domH.of h
 refine enter Tryz.func52 rfl Tryz.ntmps52 rfl (fun a hk => ?_)
 (repeat' (first|((first|refine wx1 ?_|refine wx2 ?_ ?_<;>intro hp|refine s_end hk ?_)<;>(clear hk a;intro a hk))|((first|refine wx3 ?_;intro w b|refine wx4 ?_;intro w|refine wx5 ?_;intro w v);clear hk hS a;intro hS a hk)|refine wx0 ?_|fail))
 cases hn : D.f id with
 | none =>
  rw [movP_11 hn]
  refine sg hk (g_lk5N hk (hS.rd (A := mapH encI (.map (some bm)) (mapL bl D.l)) atx) hn ?_);clear hk a;intro a hk
  (repeat' (first|((first|refine wx1 ?_|refine wx2 ?_ ?_<;>intro hp|refine s_end hk ?_)<;>(clear hk a;intro a hk))|((first|refine wx3 ?_;intro w b|refine wx4 ?_;intro w|refine wx5 ?_;intro w v);clear hk hS a;intro hS a hk)|refine wx0 ?_|fail))
  refine sg hk (g_pnE hk ?_ (by kernel_rfl));clear hk a;intro a hk
  simp only [Option.isNone_none] at hk
  (repeat' (first|((first|refine wx1 ?_|refine wx2 ?_ ?_<;>intro hp|refine s_end hk ?_)<;>(clear hk a;intro a hk))|((first|refine wx3 ?_;intro w b|refine wx4 ?_;intro w|refine wx5 ?_;intro w v);clear hk hS a;intro hS a hk)|refine wx0 ?_|fail))
  exact done1 hk (h := ⟨rfl, hback hS⟩)
 | some n =>
  refine sg hk (g_lk5S hk (hS.rd (A := mapH encI (.map (some bm)) (mapL bl D.l)) atx) hn ?_);clear hk a;intro a hk
  (repeat' (first|((first|refine wx1 ?_|refine wx2 ?_ ?_<;>intro hp|refine s_end hk ?_)<;>(clear hk a;intro a hk))|((first|refine wx3 ?_;intro w b|refine wx4 ?_;intro w|refine wx5 ?_;intro w v);clear hk hS a;intro hS a hk)|refine wx0 ?_|fail))
  refine sg hk (g_pnE hk ?_ (by kernel_rfl));clear hk a;intro a hk
  simp only [Option.isNone_some] at hk
  (repeat' (first|((first|refine wx1 ?_|refine wx2 ?_ ?_<;>intro hp|refine s_end hk ?_)<;>(clear hk a;intro a hk))|((first|refine wx3 ?_;intro w b|refine wx4 ?_;intro w|refine wx5 ?_;intro w v);clear hk hS a;intro hS a hk)|refine wx0 ?_|fail))
  cases hp : D.f n.par with
  | none =>
   rw [movP_1 hn hp]
   have hpar : n.par = -1 := by
    rcases hW.wf.par hn with ⟨h, -⟩ | ⟨-, q, h, -⟩
    ·exact h
    ·rw [hp] at h;cases h
   have hS1 := hS.outD hW.uni hn
   clear hS
   obtain ⟨a1, c1, a2, c2, a3, c3, a4, c4, hS⟩ := hS1.nod (b := bl id) (n := n) .here
   clear hS1
   simp only [nodeL, nodC, domO, domC5, List.cons_append, List.nil_append] at hS
   refine wp_drawn 27 mixed (by kernel_rfl) hk hS ?_;clear hk hS a
   (repeat' (first|(show ObxE _ _ _ _ _ _ _ _ _ (_::_) _ _ _;first|refine ox1 ?_|refine ox2 ?_ ?_<;>intro hp)|fail))
   refine obe_nil ⟨rfl, ?_⟩;intro us a w hk hS
   (repeat' (first|((first|refine wx1 ?_|refine wx2 ?_ ?_<;>intro hp|refine s_end hk ?_)<;>(clear hk a;intro a hk))|((first|refine wx3 ?_;intro w b|refine wx4 ?_;intro w|refine wx5 ?_;intro w v);clear hk hS a;intro hS a hk)|refine wx0 ?_|fail))
   refine done1 hk (h := ⟨rfl, hback (domL.back1 hW.uni hn (nodH.of (y := ((a1, c1), (a2, c2), (a3, c3), (a4, c4))) (L := domO bd D bm bl id ++ L) ?_))⟩)
   simp only [nodeL, nodC, domO, domC5, List.cons_append, List.nil_append]
   exact hS.sub (.cons atx (.cons atx (.cons atx (.cons atx (.cons atx (.cons atx (.cons atx (.cons atx sbx))))))))
  | some p =>
   have hne : id ≠ n.par := fun e => hW.par_ne hn e.symm
   have hpar : ¬ n.par = -1 := fun e => by rw [e, hW.wf.neg (by omega)] at hp;cases hp
   have bk := (hb.get hp).kids
   have hS1 := hS.outD2 hW.uni hp hn hne
   clear hS
   obtain ⟨a1, c1, a2, c2, a3, c3, a4, c4, hS⟩ := hS1.nod (b := bl n.par) (n := p) .here
   clear hS1
   obtain ⟨a5, c5, a6, c6, a7, c7, a8, c8, hS1⟩ := hS.nod (b := bl id) (n := n) (by simp only [nodeL, List.cons_append, List.nil_append];exact atx)
   clear hS
   have hS := hS1
   clear hS1
   simp only [nodeL, nodC, domO2, domC5, List.cons_append, List.nil_append] at hS
   have hback2 : ∀ {w : World}, St B (pts (bl n.par) [.int .i64 p.id, .int .i64 p.kind, .string p.tag, .string p.text, .slice a1 p.cls.length c1, .slice a2 p.att.length c2, .slice a3 p.sty.length c3, .int .i64 p.par, .slice a4 p.kids.length c4] 63 :: OwT 9 p.cls (.slice a1 p.cls.length c1) :: OwT 128 p.att (.slice a2 p.att.length c2) :: OwT 124 p.sty (.slice a3 p.sty.length c3) :: OwT 3 p.kids (.slice a4 p.kids.length c4) ::
     pts (bl id) [.int .i64 n.id, .int .i64 n.kind, .string n.tag, .string n.text, .slice a5 n.cls.length c5, .slice a6 n.att.length c6, .slice a7 n.sty.length c7, .int .i64 n.par, .slice a8 n.kids.length c8] 63 :: OwT 9 n.cls (.slice a5 n.cls.length c5) :: OwT 128 n.att (.slice a6 n.att.length c6) :: OwT 124 n.sty (.slice a7 n.sty.length c7) :: OwT 3 n.kids (.slice a8 n.kids.length c8) ::
     pts bd [.int .i64 D.most, .int .i64 D.next, .map (some bm)] 55 :: mapH encI (.map (some bm)) (mapL bl D.l) :: ndsH bl (ousP (ousP D.l n.par) id) :: L) w → St B (domL bd D bm bl ++ L) w := fun h =>
    domL.back2 hW.uni hp hn hne (nod2 (y := ((a1, c1), (a2, c2), (a3, c3), (a4, c4))) (z := ((a5, c5), (a6, c6), (a7, c7), (a8, c8))) h)
   by_cases i0 : at_ < 0
   ·rw [movP_2 hn hp (.inl i0)]
    refine wp_drawn 27 mixed (by kernel_rfl) hk hS ?_;clear hk hS a
    (repeat' (first|(show ObxE _ _ _ _ _ _ _ _ _ (_::_) _ _ _;first|refine ox1 ?_|refine ox2 ?_ ?_<;>intro hp)|fail))
    refine obe_nil ⟨rfl, ?_⟩;intro us a w hk hS
    simp only [resE, List.nil_append] at hS
    (repeat' (first|((first|refine wx1 ?_|refine wx2 ?_ ?_<;>intro hp|refine s_end hk ?_)<;>(clear hk a;intro a hk))|((first|refine wx3 ?_;intro w b|refine wx4 ?_;intro w|refine wx5 ?_;intro w v);clear hk hS a;intro hS a hk)|refine wx0 ?_|fail))
    exact done1 hk (h := ⟨rfl, hback (hback2 (hS.sub (.cons atx (.cons atx (.cons atx (.cons atx (.cons atx (.cons atx (.cons atx (.cons atx (.cons atx (.cons atx (.cons atx (.cons atx (.cons atx sbx)))))))))))))))⟩)
   ·by_cases i1 : at_ ≥ p.kids.length
    ·rw [movP_2 hn hp (.inr i1)]
     refine wp_drawn 27 mixed (by kernel_rfl) hk hS ?_;clear hk hS a
     (repeat' (first|(show ObxE _ _ _ _ _ _ _ _ _ (_::_) _ _ _;first|refine ox1 ?_|refine ox2 ?_ ?_<;>intro hp)|fail))
     refine' obe_val (fun us a w hk hd hS => ?_) ?_;rotate_left;focus (have hk := Kn.vw hk vwx;exact g_lk5S hk (hS.rd (A := mapH encI (.map (some bm)) (mapL bl D.l)) atx) hp (same _ _))
     (repeat' (first|(show ObxE _ _ _ _ _ _ _ _ _ (_::_) _ _ _;first|refine ox1 ?_|refine ox2 ?_ ?_<;>intro hp)|fail))
     refine obe_nil ⟨rfl, ?_⟩;intro us a w hk hS
     simp only [resE, List.nil_append] at hS
     (repeat' (first|((first|refine wx1 ?_|refine wx2 ?_ ?_<;>intro hp|refine s_end hk ?_)<;>(clear hk a;intro a hk))|((first|refine wx3 ?_;intro w b|refine wx4 ?_;intro w|refine wx5 ?_;intro w v);clear hk hS a;intro hS a hk)|refine wx0 ?_|fail))
     exact done1 hk (h := ⟨rfl, hback (hback2 (hS.sub (.cons atx (.cons atx (.cons atx (.cons atx (.cons atx (.cons atx (.cons atx (.cons atx (.cons atx (.cons atx (.cons atx (.cons atx (.cons atx sbx)))))))))))))))⟩)
    ·rw [movP_0 hn hp (by simp only [not_or];exact ⟨i0, i1⟩)]
     refine wp_drawn 27 mixed (by kernel_rfl) hk hS ?_;clear hk hS a
     (repeat' (first|(show ObxE _ _ _ _ _ _ _ _ _ (_::_) _ _ _;first|refine ox1 ?_|refine ox2 ?_ ?_<;>intro hp)|fail))
     refine' obe_val (fun us a w hk hd hS => ?_) ?_;rotate_left;focus (have hk := Kn.vw hk vwx;exact g_lk5S hk (hS.rd (A := mapH encI (.map (some bm)) (mapL bl D.l)) atx) hp (same _ _))
     (repeat' (first|(show ObxE _ _ _ _ _ _ _ _ _ (_::_) _ _ _;first|refine ox1 ?_|refine ox2 ?_ ?_<;>intro hp)|fail))
     refine obe_nil ⟨rfl, ?_⟩;intro us a w hk hS
     simp only [resE, List.nil_append] at hS
     (repeat' (first|((first|refine wx1 ?_|refine wx2 ?_ ?_<;>intro hp|refine s_end hk ?_)<;>(clear hk a;intro a hk))|((first|refine wx3 ?_;intro w b|refine wx4 ?_;intro w|refine wx5 ?_;intro w v);clear hk hS a;intro hS a hk)|refine wx0 ?_|fail))
     replace hS := hback2 (hS.sub (.cons atx (.cons atx (.cons atx (.cons atx (.cons atx (.cons atx (.cons atx (.cons atx (.cons atx (.cons atx (.cons atx (.cons atx (.cons atx sbx))))))))))))))
     clear hback2
     refine sg hk (g_callO hk (hf := by kernel_rfl) (hc := leave5_any hW hb hK hn hS) (h := ?_));clear hk hS a;intro vl w hS a hk
     have en : n.id = id := fnd_id hn
     have ep : p.id = n.par := fnd_id hp
     have hmem : id ∈ p.kids := by
      rcases hW.wf.par hn with ⟨h, -⟩ | ⟨-, q, h, hq⟩
      ·exact absurd h hpar
      ·rw [hp] at h;cases h;exact hq
     have el : leaP D.l n = putP D.l { p with kids := woP p.kids n.id } := by unfold leaP;rw [show fnP D.l n.par = some p from hp]
     rw [el] at hS
     clear el
     obtain ⟨p1, hp1⟩ : ∃ p1 : NodeP, p1 = { p with kids := woP p.kids n.id } := ⟨_, rfl⟩
     rw [← hp1] at hS
     have e1 : p1.id = n.par := by rw [hp1];exact ep
     have f1 : ∀ i, fnP (putP D.l p1) i = if i = n.par then some p1 else D.f i := fun i => by rw [fnd_put_some (n := p1) (m := p) (by rw [e1];exact hp), e1]
     have hnD : ({ D with l := putP D.l p1 } : DomP).f id = some n := by show fnP _ id = _;rw [f1, if_neg hne];exact hn
     have hpD : ({ D with l := putP D.l p1 } : DomP).f n.par = some p1 := by show fnP _ _ = _;rw [f1, if_pos rfl]
     have huD : ((putP D.l p1).map (·.id)).Nodup := by rw [put_ids];exact hW.uni
     have bk1 : p1.kids.length + 1 = p.kids.length := by rw [hp1];show (woP p.kids n.id).length + 1 = _;rw [en];exact woP_len (hW.wf.nod _ p hp) hmem
     have hS1 := hS.outD2 (D := { D with l := putP D.l p1 }) huD hpD hnD hne
     clear hS
     obtain ⟨b1, d1, b2, d2, b3, d3, b4, d4, hS⟩ := hS1.nod (b := bl n.par) (n := p1) .here
     clear hS1
     obtain ⟨b5, d5, b6, d6, b7, d7, b8, d8, hS1⟩ := hS.nod (b := bl id) (n := n) (by simp only [nodeL, List.cons_append, List.nil_append];exact atx)
     clear hS
     have hS := hS1
     clear hS1
     simp only [nodeL, nodC, domO2, domC5, List.cons_append, List.nil_append] at hS
     obtain ⟨i, rfl⟩ : ∃ i : Nat, at_ = i := ⟨at_.toNat, by omega⟩
     rw [Int.toNat_natCast]
     (repeat' (first|((first|refine wx1 ?_|refine wx2 ?_ ?_<;>intro hp|refine s_end hk ?_)<;>(clear hk a;intro a hk))|((first|refine wx3 ?_;intro w b|refine wx4 ?_;intro w|refine wx5 ?_;intro w v);clear hk hS a;intro hS a hk)|refine wx0 ?_|fail))
     refine wp_drawn 9 mixed (by kernel_rfl) hk hS ?_;clear hk hS a
     (repeat' (first|(show ObxE _ _ _ _ _ _ _ _ _ (_::_) _ _ _;first|refine ox1 ?_|refine ox2 ?_ ?_<;>intro hp)|fail))
     refine' obe_val (fun us a w hk hd hS => ?_) ?_;rotate_left;focus (have hk := Kn.vw hk vwx;exact g_lk5S hk (hS.rd (A := mapH encI (.map (some bm)) (mapL bl (putP D.l p1))) atx) hpD (same _ _))
     refine obe_nil ⟨rfl, ?_⟩;intro us a w hk hS
     (repeat' (first|((first|refine wx1 ?_|refine wx2 ?_ ?_<;>intro hp|refine s_end hk ?_)<;>(clear hk a;intro a hk))|((first|refine wx3 ?_;intro w b|refine wx4 ?_;intro w|refine wx5 ?_;intro w v);clear hk hS a;intro hS a hk)|refine wx0 ?_|fail))
     simp only [resE, List.nil_append] at hS
     rename Value => v64
     refine sg hk (g_callO hk (hf := by kernel_rfl) (hc := insI5_any (xs := p1.kids) (e := id) (i := i) (hS.sub (.cons atx (.cons atx (by repeat (first | exact Sub.refl | apply Sub.under))))) (by omega) (by omega)) (h := ?_));clear hk hS a;intro vn w hS a hk
     obtain ⟨aovn, cvn, hshp, _⟩ := (OwT.rd (hS.rd (A := OwT 3 _ vn) atx)).shape;subst hshp
     (repeat' (first|((first|refine wx1 ?_|refine wx2 ?_ ?_<;>intro hp|refine s_end hk ?_)<;>(clear hk a;intro a hk))|((first|refine wx3 ?_;intro w b|refine wx4 ?_;intro w|refine wx5 ?_;intro w v);clear hk hS a;intro hS a hk)|refine wx0 ?_|fail))
     have h2 := domL.put2 (D := { D with l := putP D.l p1 }) (p' := { p1 with kids := insF p1.kids i id }) (n' := n) huD hpD hnD hne e1 en (L := L) (bd := bd) (bm := bm) (bl := bl) (nod2 (y := ((b1, d1), (b2, d2), (b3, d3), (aovn, cvn))) (z := ((b5, d5), (b6, d6), (b7, d7), (b8, d8))) (by
      simp only [nodeL, nodC, domO2, domC5, List.cons_append, List.nil_append]
      exact hS.sub (.cons atx (.cons atx (.cons atx (.cons atx (.cons atx (.cons atx (.cons atx (.cons atx (.cons atx (.cons atx (.cons atx (.cons atx (.cons atx sbx)))))))))))))))
     have hl : putP (putP (putP D.l p1) { p1 with kids := insF p1.kids i id }) n = putP D.l { p with kids := insF (woP p.kids id) i id } := by
      rw [put_put (l := D.l) (x := p1) (y := { p1 with kids := insF p1.kids i id }) rfl, put_same (by rw [put_ids];exact hW.uni)]
      ·rw [hp1, en]
      ·rw [fnd_put_some (n := { p1 with kids := insF p1.kids i id }) (m := p) (by show fnP D.l p1.id = _;rw [e1];exact hp), if_neg (by show n.id ≠ p1.id;rw [e1, en];exact hne), en]
       exact hn
     rw [hl] at h2
     exact done1 hk (h := ⟨rfl, domH.of h2⟩)
end
end Go.Proofs.YtbpkddpkcnlmhaaGreat
namespace Go.Proofs.YtbpkddpkcnlmhaaGreat
open Go.RowKit
set_option maxRecDepth 100000
attribute [local irreducible] Go.Code.wpIn Go.wpListIn Go.Calls Gives Go.Exit.then Go.Exit.inBlock Done ObxE
theorem setI_any (l : List PrI) (k : ByteArray) (x : Int) (v : Value) (w0 : World) (hv : SlT l v w0) (hl : l.length ≤ 1000) :
  Calls Tryz.prog 42 #[v, .string k, .int .i64 x] w0 (Ret fun v w => St w0 [OwT 124 (putF nmI (snapF nmI l) (k, x)) v] w) := by
 have hsl := snap_len nmI l
 refine enter Tryz.func42 rfl Tryz.ntmps42 rfl (fun a hk => ?_);have hS := St.refl w0
 (repeat' (first|((first|refine wx1 ?_|refine wx2 ?_ ?_<;>intro hp|refine s_end hk ?_)<;>(clear hk a;intro a hk))|((first|refine wx3 ?_;intro w b|refine wx4 ?_;intro w|refine wx5 ?_;intro w v);clear hk hS a;intro hS a hk)|refine wx0 ?_|fail))
 refine sg hk (g_callO hk (hf := by kernel_rfl) (hc := ofI_any l v _ (hS.rdT hv) hl) (h := ?_));clear hk a;rintro vs w hS1 a hk;replace hS := hS.call hS1;clear hS1
 (repeat' (first|((first|refine wx1 ?_|refine wx2 ?_ ?_<;>intro hp|refine s_end hk ?_)<;>(clear hk a;intro a hk))|((first|refine wx3 ?_;intro w b|refine wx4 ?_;intro w|refine wx5 ?_;intro w v);clear hk hS a;intro hS a hk)|refine wx0 ?_|fail))
 refine sg hk (g_callO hk (hf := by kernel_rfl) (hc := putI_any (s := snapF nmI l) (v := vs) (L := []) ((k, x) : PrI) (hS.sub (by (repeat (first | exact Sub.nil | exact Sub.refl | refine Sub.cons atx ?_)))) (by omega) (snap_rises nmI l)) (h := ?_));clear hk hS a;intro vr w hS a hk
 (repeat' (first|((first|refine wx1 ?_|refine wx2 ?_ ?_<;>intro hp|refine s_end hk ?_)<;>(clear hk a;intro a hk))|((first|refine wx3 ?_;intro w b|refine wx4 ?_;intro w|refine wx5 ?_;intro w v);clear hk hS a;intro hS a hk)|refine wx0 ?_|fail))
 exact done1 hk (h := hS)
end Go.Proofs.YtbpkddpkcnlmhaaGreat
