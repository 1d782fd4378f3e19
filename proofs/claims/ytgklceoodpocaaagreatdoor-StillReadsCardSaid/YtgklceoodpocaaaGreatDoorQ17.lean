/- Layer 5, the reference: attributes, styles and classes are set and dropped. Layer 5, the reference: a node is changed, its tag, text and attributes. -/
import Derived.Test.YtgklceoodpocaaaGreatDoorQ11
import Derived.Test.YtgklceoodpocaaaGreatDoorQ16
import Derived.Test.YtgklceoodpocaaaGreatDoorQ10
set_option linter.all false
namespace Go.Proofs.YtgklceoodpocaaaGreatDoor
open Go.RowKit
set_option maxRecDepth 100000
attribute [local irreducible] Go.Code.wpIn Go.wpListIn Go.Calls Gives Go.Exit.then Go.Exit.inBlock Done ObxE
def stA (a : PrS) (s : List PrS × Bool) (x : PrS) : List PrS × Bool :=
 let s1 := if s.2 = false ∧ Lin.lt x.1 a.1 = false then (s.1 ++ [a], true) else s
 if x.1 = a.1 then s1 else (s1.1 ++ [x], s1.2)
theorem stA_done (a : PrS) : ∀ (l out : List PrS), (∀ x ∈ l, Lin.lt a.1 x.1 = true) → l.foldl (stA a) (out, true) = (out ++ l, true)
 | [], out, _ => by simp
 | x :: l, out, h => by
  have hx := h x (by simp)
  rw [List.foldl_cons, show stA a (out, true) x = (out ++ [x], true) by simp [stA, (Lin.ne hx).symm], stA_done a l _ fun y hy => h y (by simp [hy])]
  simp
theorem stA_put (a : PrS) : ∀ (l out : List PrS), Rises nmS l → (if (l.foldl (stA a) (out, false)).2 = true then (l.foldl (stA a) (out, false)).1 else (l.foldl (stA a) (out, false)).1 ++ [a]) = out ++ putF nmS l a
 | [], out, _ => by simp [putF]
 | x :: l, out, h => by
  have h1 : ∀ y ∈ l, Lin.lt x.1 y.1 = true := fun y hy => List.rel_of_pairwise_cons h hy
  have h2 : Rises nmS l := h.of_cons
  unfold putF
  by_cases hlt : Lin.lt a.1 x.1 = true
  ·have e : stA a (out, false) x = (out ++ [a] ++ [x], true) := by simp [stA, Lin.asym hlt, (Lin.ne hlt).symm]
   rw [List.foldl_cons, e, stA_done a l _ fun y hy => Lin.tr hlt (h1 y hy), if_pos rfl, if_pos hlt]
   simp
  ·by_cases he : a.1 = x.1
   ·have e : stA a (out, false) x = (out ++ [a], true) := by simp [stA, he, Lin.irr]
    rw [List.foldl_cons, e, stA_done a l _ fun y hy => by rw [he];exact h1 y hy, if_pos rfl, if_neg hlt, if_pos he]
    simp
   ·have hxa : Lin.lt x.1 a.1 = true := Lin.gt (by simpa using hlt) he
    have e : stA a (out, false) x = (out ++ [x], false) := by simp [stA, hxa, Ne.symm he]
    rw [List.foldl_cons, e, stA_put a l _ h2, if_neg hlt, if_neg he]
    simp
theorem stA_snoc (a : PrS) {l : List PrS} {i : Nat} {x : PrS} (h : l[i]? = some x) : (l.take (i + 1)).foldl (stA a) ([], false) = stA a ((l.take i).foldl (stA a) ([], false)) x := by
 rw [take_snoc h, List.foldl_append];rfl
theorem stA_len (a : PrS) : ∀ (l : List PrS) (s : List PrS × Bool), (l.foldl (stA a) s).1.length + (if (l.foldl (stA a) s).2 = true then 0 else 1) ≤ s.1.length + (if s.2 = true then 0 else 1) + l.length
 | [], s => by simp only [List.foldl_nil, List.length_nil, Nat.add_zero];exact Nat.le_refl _
 | x :: l, s => by
  have h := stA_len a l (stA a s x)
  rw [List.foldl_cons]
  have h2 : (stA a s x).1.length + (if (stA a s x).2 = true then 0 else 1) ≤ s.1.length + (if s.2 = true then 0 else 1) + 1 := by
   obtain ⟨o, d⟩ := s
   unfold stA
   cases d <;> simp only <;> repeat' split
   all_goals simp_all
   all_goals omega
  rw [List.length_cons]
  omega
set_option maxHeartbeats 4000000 in
theorem rsetA_any (l : List PrS) (nm vl : ByteArray) (v : Value) (w0 : World) (hv : SlT l v w0) (hl : l.length ≤ 900) (hr : Rises nmS l) :
  Calls Tryz.prog 67 #[v, .agg #[.string nm, .string vl]] w0 (Ret fun r w => St w0 [OwT 102 (putF nmS l (nm, vl)) r] w) := by
 have hput := stA_put (nm, vl) l [] hr
 rw [List.nil_append] at hput
 refine enter Tryz.func67 rfl Tryz.ntmps67 rfl (fun a hk => ?_);have hS := St.refl w0
 (repeat' (first|((first|refine wx1 ?_|refine wx2 ?_ ?_<;>intro hp|refine s_end hk ?_)<;>(clear hk a;intro a hk))|((first|refine wx3 ?_;intro w b|refine wx4 ?_;intro w|refine wx5 ?_;intro w v);clear hk hS a;intro hS a hk)|refine wx0 ?_|fail))
 rename Nat => b3
 refine sg hk (g_bs0 PrS hS ?_ (hT := eT rfl) (hE := zT rfl));clear hk hS a;intro w v9 hS a hk
 (repeat' (first|((first|refine wx1 ?_|refine wx2 ?_ ?_<;>intro hp|refine s_end hk ?_)<;>(clear hk a;intro a hk))|((first|refine wx3 ?_;intro w b|refine wx4 ?_;intro w|refine wx5 ?_;intro w v);clear hk hS a;intro hS a hk)|refine wx0 ?_|fail))
 replace hk := Kn.kp [3, 5, 6, 10, 11, 12] hk
 refine wp_for l.length (fun i v => [(5, v), (6, .bool ((l.take i).foldl (stA (nm, vl)) ([], false)).2), (12, .int .i64 (i : Int))]) (fun i v => OwT 102 ((l.take i).foldl (stA (nm, vl)) ([], false)).1 v :: pts b3 [.string nm, .string vl] 102 :: []) (fun _ _ => True) v9 hk skx (hS.sub (.cons atx (.cons atx sbx))) trivial ?_
 clear hk hS a
 rintro i vo a w hi hk hS -
 have hln := stA_len (nm, vl) (l.take i) ([], false)
 rw [List.length_take] at hln
 by_cases hil : i < l.length
 ·obtain ⟨⟨xn, xv⟩, hx⟩ : ∃ x, l[i]? = some x := ⟨_, List.getElem?_eq_getElem hil⟩
  have hst := stA_snoc (nm, vl) hx
  have hv1 := hS.rdT hv
  generalize (l.take i).foldl (stA (nm, vl)) ([], false) = s at *
  generalize (l.take (i + 1)).foldl (stA (nm, vl)) ([], false) = s2 at *
  obtain ⟨O, d⟩ := s
  simp only at hS hk hln
  simp only [List.length_nil, Bool.false_eq_true, if_false] at hln
  cases d with
  | true =>
   simp only [if_true] at hln
   by_cases he : xn = nm
   ·have e : s2 = (O, true) := by rw [hst];simp [stA, he]
    subst e
    (repeat' (first|((first|refine wx1 ?_|refine wx2 ?_ ?_<;>intro hp|refine s_end hk ?_)<;>(clear hk a;intro a hk))|((first|refine wx3 ?_;intro w b|refine wx4 ?_;intro w|refine wx5 ?_;intro w v);clear hk hS a;intro hS a hk)|refine wx0 ?_|fail))
    exact ⟨hil, _, hk.sd, hS.sub (.cons atx (.cons atx sbx)), trivial⟩
   ·have e : s2 = (O ++ [(xn, xv)], true) := by rw [hst];simp [stA, he]
    subst e
    (repeat' (first|((first|refine wx1 ?_|refine wx2 ?_ ?_<;>intro hp|refine s_end hk ?_)<;>(clear hk a;intro a hk))|((first|refine wx3 ?_;intro w b|refine wx4 ?_;intro w|refine wx5 ?_;intro w v);clear hk hS a;intro hS a hk)|refine wx0 ?_|fail))
    refine sg hk (g_bsT (xs := [((xn, xv) : PrS)]) (m := 0) hk hS ?_ (hT := eT rfl) (hE := zT rfl) (hz := oT rfl));clear hk hS a;intro w v hS a hk;refine sg hk (g_appD hk hS ?_ (hT := eT rfl) (hTx := eT rfl) (hE := zT rfl) (hz := oT rfl) (hzs := rfl) (hby := bT rfl) (hbytes := (by simp only [List.length_cons, List.length_nil];omega)) (h63 := (by simp only [List.length_cons, List.length_nil, maxLen];omega)));clear hk hS a;intro w v hS a hk
    (repeat' (first|((first|refine wx1 ?_|refine wx2 ?_ ?_<;>intro hp|refine s_end hk ?_)<;>(clear hk a;intro a hk))|((first|refine wx3 ?_;intro w b|refine wx4 ?_;intro w|refine wx5 ?_;intro w v);clear hk hS a;intro hS a hk)|refine wx0 ?_|fail))
    exact ⟨hil, _, hk.sd, hS.sub (.cons atx (.cons atx sbx)), trivial⟩
  | false =>
   simp only [Bool.false_eq_true, if_false] at hln
   by_cases he : xn = nm
   ·(repeat' (first|((first|refine wx1 ?_|refine wx2 ?_ ?_<;>intro hp|refine s_end hk ?_)<;>(clear hk a;intro a hk))|((first|refine wx3 ?_;intro w b|refine wx4 ?_;intro w|refine wx5 ?_;intro w v);clear hk hS a;intro hS a hk)|refine wx0 ?_|fail))
    ·skip
     have e : s2 = (O ++ [(nm, vl)], true) := by rw [hst];simp [stA, he, Lin.irr]
     subst e
     refine sg hk (g_bsT (xs := [((nm, vl) : PrS)]) (m := 0) hk hS ?_ (hT := eT rfl) (hE := zT rfl) (hz := oT rfl));clear hk hS a;intro w v hS a hk;refine sg hk (g_appD hk hS ?_ (hT := eT rfl) (hTx := eT rfl) (hE := zT rfl) (hz := oT rfl) (hzs := rfl) (hby := bT rfl) (hbytes := (by simp only [List.length_cons, List.length_nil];omega)) (h63 := (by simp only [List.length_cons, List.length_nil, maxLen];omega)));clear hk hS a;intro w v hS a hk
     (repeat' (first|((first|refine wx1 ?_|refine wx2 ?_ ?_<;>intro hp|refine s_end hk ?_)<;>(clear hk a;intro a hk))|((first|refine wx3 ?_;intro w b|refine wx4 ?_;intro w|refine wx5 ?_;intro w v);clear hk hS a;intro hS a hk)|refine wx0 ?_|fail))
     exact ⟨hil, _, hk.sd, hS.sub (.cons atx (.cons atx sbx)), trivial⟩
    ·exfalso
     have hp : Lin.lt xn nm = true := by simpa using hp
     rw [he, Lin.irr] at hp
     cases hp
   ·(repeat' (first|((first|refine wx1 ?_|refine wx2 ?_ ?_<;>intro hp|refine s_end hk ?_)<;>(clear hk a;intro a hk))|((first|refine wx3 ?_;intro w b|refine wx4 ?_;intro w|refine wx5 ?_;intro w v);clear hk hS a;intro hS a hk)|refine wx0 ?_|fail))
    ·have hp : Lin.lt xn nm = false := by simpa using hp
     have e : s2 = (O ++ [(nm, vl)] ++ [(xn, xv)], true) := by rw [hst];simp [stA, he, hp]
     subst e
     have hl2 : (O ++ [((nm, vl) : PrS)]).length = O.length + 1 := by simp
     refine sg hk (g_bsT (xs := [((nm, vl) : PrS)]) (m := 0) hk hS ?_ (hT := eT rfl) (hE := zT rfl) (hz := oT rfl));clear hk hS a;intro w v hS a hk;refine sg hk (g_appD hk hS ?_ (hT := eT rfl) (hTx := eT rfl) (hE := zT rfl) (hz := oT rfl) (hzs := rfl) (hby := bT rfl) (hbytes := (by simp only [List.length_cons, List.length_nil];omega)) (h63 := (by simp only [List.length_cons, List.length_nil, maxLen];omega)));clear hk hS a;intro w v hS a hk
     (repeat' (first|((first|refine wx1 ?_|refine wx2 ?_ ?_<;>intro hp|refine s_end hk ?_)<;>(clear hk a;intro a hk))|((first|refine wx3 ?_;intro w b|refine wx4 ?_;intro w|refine wx5 ?_;intro w v);clear hk hS a;intro hS a hk)|refine wx0 ?_|fail))
     refine sg hk (g_bsT (xs := [((xn, xv) : PrS)]) (m := 0) hk hS ?_ (hT := eT rfl) (hE := zT rfl) (hz := oT rfl));clear hk hS a;intro w v hS a hk;refine sg hk (g_appD hk hS ?_ (hT := eT rfl) (hTx := eT rfl) (hE := zT rfl) (hz := oT rfl) (hzs := rfl) (hby := bT rfl) (hbytes := (by simp only [List.length_cons, List.length_nil];omega)) (h63 := (by simp only [List.length_cons, List.length_nil, maxLen];omega)));clear hk hS a;intro w v hS a hk
     (repeat' (first|((first|refine wx1 ?_|refine wx2 ?_ ?_<;>intro hp|refine s_end hk ?_)<;>(clear hk a;intro a hk))|((first|refine wx3 ?_;intro w b|refine wx4 ?_;intro w|refine wx5 ?_;intro w v);clear hk hS a;intro hS a hk)|refine wx0 ?_|fail))
     exact ⟨hil, _, hk.sd, hS.sub (.cons atx (.cons atx sbx)), trivial⟩
    ·have hp : Lin.lt xn nm = true := by simpa using hp
     have e : s2 = (O ++ [(xn, xv)], false) := by rw [hst];simp [stA, he, hp]
     subst e
     refine sg hk (g_bsT (xs := [((xn, xv) : PrS)]) (m := 0) hk hS ?_ (hT := eT rfl) (hE := zT rfl) (hz := oT rfl));clear hk hS a;intro w v hS a hk;refine sg hk (g_appD hk hS ?_ (hT := eT rfl) (hTx := eT rfl) (hE := zT rfl) (hz := oT rfl) (hzs := rfl) (hby := bT rfl) (hbytes := (by simp only [List.length_cons, List.length_nil];omega)) (h63 := (by simp only [List.length_cons, List.length_nil, maxLen];omega)));clear hk hS a;intro w v hS a hk
     (repeat' (first|((first|refine wx1 ?_|refine wx2 ?_ ?_<;>intro hp|refine s_end hk ?_)<;>(clear hk a;intro a hk))|((first|refine wx3 ?_;intro w b|refine wx4 ?_;intro w|refine wx5 ?_;intro w v);clear hk hS a;intro hS a hk)|refine wx0 ?_|fail))
     exact ⟨hil, _, hk.sd, hS.sub (.cons atx (.cons atx sbx)), trivial⟩
 ·have hii : i = l.length := by omega
  subst hii
  rw [List.take_length] at hS hk hln
  generalize l.foldl (stA (nm, vl)) ([], false) = s at *
  obtain ⟨O, d⟩ := s
  simp only at hS hk hput hln
  simp only [List.length_nil, Bool.false_eq_true, if_false] at hln
  rw [← hput]
  cases d with
  | true =>
   rw [if_pos rfl]
   (repeat' (first|((first|refine wx1 ?_|refine wx2 ?_ ?_<;>intro hp|refine s_end hk ?_)<;>(clear hk a;intro a hk))|((first|refine wx3 ?_;intro w b|refine wx4 ?_;intro w|refine wx5 ?_;intro w v);clear hk hS a;intro hS a hk)|refine wx0 ?_|fail))
   exact done1 hk (h := hS.sub (.cons atx sbx))
  | false =>
   simp only [Bool.false_eq_true, if_false] at hln
   rw [if_neg (by decide)]
   (repeat' (first|((first|refine wx1 ?_|refine wx2 ?_ ?_<;>intro hp|refine s_end hk ?_)<;>(clear hk a;intro a hk))|((first|refine wx3 ?_;intro w b|refine wx4 ?_;intro w|refine wx5 ?_;intro w v);clear hk hS a;intro hS a hk)|refine wx0 ?_|fail))
   refine sg hk (g_bsT (xs := [((nm, vl) : PrS)]) (m := 0) hk hS ?_ (hT := eT rfl) (hE := zT rfl) (hz := oT rfl));clear hk hS a;intro w v hS a hk;refine sg hk (g_appD hk hS ?_ (hT := eT rfl) (hTx := eT rfl) (hE := zT rfl) (hz := oT rfl) (hzs := rfl) (hby := bT rfl) (hbytes := (by simp only [List.length_cons, List.length_nil];omega)) (h63 := (by simp only [List.length_cons, List.length_nil, maxLen];omega)));clear hk hS a;intro w v hS a hk
   (repeat' (first|((first|refine wx1 ?_|refine wx2 ?_ ?_<;>intro hp|refine s_end hk ?_)<;>(clear hk a;intro a hk))|((first|refine wx3 ?_;intro w b|refine wx4 ?_;intro w|refine wx5 ?_;intro w v);clear hk hS a;intro hS a hk)|refine wx0 ?_|fail))
   exact done1 hk (h := hS.sub (.cons atx sbx))
theorem filt5 {α : Type} {p : α → Bool} {s : List α} {i : Nat} {e : α} (h : s[i]? = some e) : (s.take (i + 1)).filter p = if p e = true then (s.take i).filter p ++ [e] else (s.take i).filter p := by
 rw [take_snoc h, List.filter_append]
 by_cases hp : p e = true <;> simp [hp]
theorem rdrop04_any (l : List PrI) (k : ByteArray) (v : Value) (w0 : World) (hv : SlT l v w0) (hl : l.length ≤ 1000) :
  Calls Tryz.prog 71 #[v, .string k] w0 (Ret fun v w => St w0 [OwT 103 (dropI l k) v] w) := by
 have hsl := snap_len nmI l
 unfold dropI
 refine enter Tryz.func71 rfl Tryz.ntmps71 rfl (fun a hk => ?_);have hS := St.refl w0
 (repeat' (first|((first|refine wx1 ?_|refine wx2 ?_ ?_<;>intro hp|refine s_end hk ?_)<;>(clear hk a;intro a hk))|((first|refine wx3 ?_;intro w b|refine wx4 ?_;intro w|refine wx5 ?_;intro w v);clear hk hS a;intro hS a hk)|refine wx0 ?_|fail))
 refine sg hk (g_bs0 PrI hS ?_ (hT := eT rfl) (hE := zT rfl));clear hk hS a;intro w v2 hS a hk
 (repeat' (first|((first|refine wx1 ?_|refine wx2 ?_ ?_<;>intro hp|refine s_end hk ?_)<;>(clear hk a;intro a hk))|((first|refine wx3 ?_;intro w b|refine wx4 ?_;intro w|refine wx5 ?_;intro w v);clear hk hS a;intro hS a hk)|refine wx0 ?_|fail))
 refine sg hk (g_callO hk (hf := by kernel_rfl) (hc := refOf_any l v _ (hS.rdT hv) hl) (h := ?_));clear hk a;rintro vs w hS1 a hk;replace hS := hS.call hS1;clear hS1
 generalize snapF nmI l = S at *
 (repeat' (first|((first|refine wx1 ?_|refine wx2 ?_ ?_<;>intro hp|refine s_end hk ?_)<;>(clear hk a;intro a hk))|((first|refine wx3 ?_;intro w b|refine wx4 ?_;intro w|refine wx5 ?_;intro w v);clear hk hS a;intro hS a hk)|refine wx0 ?_|fail))
 replace hk := Kn.kp [1, 5, 10, 11, 12] hk
 refine wp_for S.length (fun i v => [(5, v), (12, .int .i64 (i : Int))]) (fun i v => [OwT 103 ((S.take i).filter (fun x => !decide (x.1 = k))) v, OwT 103 S vs]) (fun _ _ => True) v2 hk skx hS.sb trivial ?_
 clear hk hS a
 rintro i vo a w hi hk hS -
 have hfl := List.length_filter_le (fun x : PrI => !decide (x.1 = k)) (S.take i)
 rw [List.length_take] at hfl
 by_cases hil : i < S.length
 ·obtain ⟨⟨n, x⟩, hx⟩ : ∃ x, S[i]? = some x := ⟨_, List.getElem?_eq_getElem hil⟩
  have hst := filt5 (p := fun x : PrI => !decide (x.1 = k)) hx
  (repeat' (first|((first|refine wx1 ?_|refine wx2 ?_ ?_<;>intro hp|refine s_end hk ?_)<;>(clear hk a;intro a hk))|((first|refine wx3 ?_;intro w b|refine wx4 ?_;intro w|refine wx5 ?_;intro w v);clear hk hS a;intro hS a hk)|refine wx0 ?_|fail))
  ·have h1 : n = k := by assumption
   rw [if_neg (by simp [h1])] at hst
   rw [← hst] at hS
   exact ⟨hil, _, hk.sd, hS.sb, trivial⟩
  ·have h1 : ¬ n = k := by assumption
   rw [if_pos (by simp [h1])] at hst
   refine sg hk (g_bsT (xs := [((n, x) : PrI)]) (m := 0) hk hS ?_ (hT := eT rfl) (hE := zT rfl) (hz := oT rfl));clear hk hS a;intro w ve hS a hk
   (repeat' (first|((first|refine wx1 ?_|refine wx2 ?_ ?_<;>intro hp|refine s_end hk ?_)<;>(clear hk a;intro a hk))|((first|refine wx3 ?_;intro w b|refine wx4 ?_;intro w|refine wx5 ?_;intro w v);clear hk hS a;intro hS a hk)|refine wx0 ?_|fail))
   rw [← hst] at hS
   exact ⟨hil, _, hk.sd, hS.sb, trivial⟩
 ·have : i = S.length := by omega
  subst this
  rw [List.take_length] at hS
  (repeat' (first|((first|refine wx1 ?_|refine wx2 ?_ ?_<;>intro hp|refine s_end hk ?_)<;>(clear hk a;intro a hk))|((first|refine wx3 ?_;intro w b|refine wx4 ?_;intro w|refine wx5 ?_;intro w v);clear hk hS a;intro hS a hk)|refine wx0 ?_|fail))
  exact done1 hk (h := hS.sb)
theorem rdrop03_any (l : List ByteArray) (k : ByteArray) (v : Value) (w0 : World) (hv : SlT l v w0) (hl : l.length ≤ 1000) :
  Calls Tryz.prog 73 #[v, .string k] w0 (Ret fun v w => St w0 [OwT 9 (l.filter (fun x => !decide (x = k))) v] w) := by
 refine enter Tryz.func73 rfl Tryz.ntmps73 rfl (fun a hk => ?_);have hS := St.refl w0
 (repeat' (first|((first|refine wx1 ?_|refine wx2 ?_ ?_<;>intro hp|refine s_end hk ?_)<;>(clear hk a;intro a hk))|((first|refine wx3 ?_;intro w b|refine wx4 ?_;intro w|refine wx5 ?_;intro w v);clear hk hS a;intro hS a hk)|refine wx0 ?_|fail))
 refine sg hk (g_bs0 ByteArray hS ?_ (hT := eT rfl) (hE := zT rfl));clear hk hS a;intro w v2 hS a hk
 (repeat' (first|((first|refine wx1 ?_|refine wx2 ?_ ?_<;>intro hp|refine s_end hk ?_)<;>(clear hk a;intro a hk))|((first|refine wx3 ?_;intro w b|refine wx4 ?_;intro w|refine wx5 ?_;intro w v);clear hk hS a;intro hS a hk)|refine wx0 ?_|fail))
 replace hk := Kn.kp [1, 5, 9, 10, 11] hk
 refine wp_for l.length (fun i v => [(5, v), (11, .int .i64 (i : Int))]) (fun i v => [OwT 9 ((l.take i).filter (fun x => !decide (x = k))) v]) (fun _ _ => True) v2 hk skx hS.sb trivial ?_
 clear hk hS a
 rintro i vo a w hi hk hS -
 have hfl := List.length_filter_le (fun x : ByteArray => !decide (x = k)) (l.take i)
 rw [List.length_take] at hfl
 by_cases hil : i < l.length
 ·obtain ⟨x, hx⟩ : ∃ x, l[i]? = some x := ⟨_, List.getElem?_eq_getElem hil⟩
  have hst := filt5 (p := fun x : ByteArray => !decide (x = k)) hx
  have hv1 := hS.rdT hv
  (repeat' (first|((first|refine wx1 ?_|refine wx2 ?_ ?_<;>intro hp|refine s_end hk ?_)<;>(clear hk a;intro a hk))|((first|refine wx3 ?_;intro w b|refine wx4 ?_;intro w|refine wx5 ?_;intro w v);clear hk hS a;intro hS a hk)|refine wx0 ?_|fail))
  ·have h1 : x = k := by assumption
   rw [if_neg (by simp [h1])] at hst
   rw [← hst] at hS
   exact ⟨hil, _, hk.sd, hS.sb, trivial⟩
  ·have h1 : ¬ x = k := by assumption
   rw [if_pos (by simp [h1])] at hst
   rw [← hst] at hS
   exact ⟨hil, _, hk.sd, hS.sb, trivial⟩
 ·have : i = l.length := by omega
  subst this
  rw [List.take_length] at hS
  (repeat' (first|((first|refine wx1 ?_|refine wx2 ?_ ?_<;>intro hp|refine s_end hk ?_)<;>(clear hk a;intro a hk))|((first|refine wx3 ?_;intro w b|refine wx4 ?_;intro w|refine wx5 ?_;intro w v);clear hk hS a;intro hS a hk)|refine wx0 ?_|fail))
  exact done1 hk (h := hS.sb)
theorem rget04_any (l : List PrI) (k : ByteArray) (v : Value) (w0 : World) (hv : SlT l v w0) (hl : l.length ≤ 1000) :
  Calls Tryz.prog 70 #[v, .string k] w0 (Ret fun v w => v = .tuple #[.int .i64 (getI l k), .bool (lastF nmI l k).isSome] ∧ St w0 [] w) := by
 refine enter Tryz.func70 rfl Tryz.ntmps70 rfl (fun a hk => ?_);have hS := St.refl w0
 (repeat' (first|((first|refine wx1 ?_|refine wx2 ?_ ?_<;>intro hp|refine s_end hk ?_)<;>(clear hk a;intro a hk))|((first|refine wx3 ?_;intro w b|refine wx4 ?_;intro w|refine wx5 ?_;intro w v);clear hk hS a;intro hS a hk)|refine wx0 ?_|fail))
 replace hk := Kn.kp [0, 1, 6] hk
 refine wp_while (fun x : Nat => [(6, .int .i64 ((x : Int) - 1))]) (fun _ => []) (fun x => x ≤ l.length ∧ ∀ j (hj : j < l.length), x ≤ j → nmI l[j] ≠ k) (fun x => x) l.length hk skx hS.sb ⟨Nat.le_refl _, fun j hj h => by omega⟩ ?_
 clear hk hS a
 rintro m a w hk hS ⟨hml, hF⟩
 cases m with
 | zero =>
  have hn : lastF nmI l k = none := last_none nmI (fun x hx => by
   obtain ⟨j, hj, e⟩ := List.mem_iff_getElem.1 hx
   rw [← e]
   exact hF j hj (Nat.zero_le _))
  (repeat' (first|((first|refine wx1 ?_|refine wx2 ?_ ?_<;>intro hp|refine s_end hk ?_)<;>(clear hk a;intro a hk))|((first|refine wx3 ?_;intro w b|refine wx4 ?_;intro w|refine wx5 ?_;intro w v);clear hk hS a;intro hS a hk)|refine wx0 ?_|fail))
  exact done2 hk (h := ⟨by unfold getI;rw [hn];rfl, hS.nil⟩)
 | succ i =>
  have hil : i < l.length := by omega
  obtain ⟨⟨n, x⟩, hx⟩ : ∃ x, l[i]? = some x := ⟨_, List.getElem?_eq_getElem hil⟩
  rw [show ((i + 1 : Nat) : Int) - 1 = (i : Int) by omega] at hk
  have hv1 := hS.rdT hv
  have hgx : l[i] = (n, x) := (List.getElem?_eq_some_iff.1 hx).2
  (repeat' (first|((first|refine wx1 ?_|refine wx2 ?_ ?_<;>intro hp|refine s_end hk ?_)<;>(clear hk a;intro a hk))|((first|refine wx3 ?_;intro w b|refine wx4 ?_;intro w|refine wx5 ?_;intro w v);clear hk hS a;intro hS a hk)|refine wx0 ?_|fail))
  ·have h1 : n = k := by assumption
   have hla := last_at nmI hil (by rw [hgx];exact h1) (fun j hj hij => hF j hj (by omega))
   rw [hgx] at hla
   exact done2 hk (h := ⟨by unfold getI;rw [hla];rfl, hS.nil⟩)
  ·have h1 : ¬ n = k := by assumption
   exact ⟨i, by omega, hk.sd, hS.sb, by omega, fun j hj hij => by
    rcases Nat.lt_or_ge i j with h2 | h2
    ·exact hF j hj h2
    ·have : j = i := by omega
     subst this
     rw [hgx];exact h1⟩
end Go.Proofs.YtgklceoodpocaaaGreatDoor
namespace Go.Proofs.YtgklceoodpocaaaGreatDoor
open Go.RowKit
set_option maxRecDepth 100000
attribute [local irreducible] Go.Code.wpIn Go.wpListIn Go.Calls Gives Go.Exit.then Go.Exit.inBlock Done ObxE
theorem att_no {l : List (ByteArray × ByteArray)} {k : ByteArray} (h : (lastF nmS l k).isSome = false) : l.filter (fun x => !decide (x.1 = k)) = l := List.filter_eq_self.2 fun x hx => by
 have : x.1 ≠ k := fun e => by
  obtain ⟨y, hy⟩ := last_of_mem nmS hx
  rw [show nmS x = k from e] at hy
  rw [hy] at h
  cases h
 simp [this]
theorem att_yes {l : List (ByteArray × ByteArray)} {k : ByteArray} (h : (lastF nmS l k).isSome = true) : (l.filter (fun x => !decide (x.1 = k))).length < l.length := by
 obtain ⟨y, hy⟩ := Option.isSome_iff_exists.1 h
 refine List.length_filter_lt_length_iff_exists.2 ⟨y, last_mem nmS hy, ?_⟩
 have : y.1 = k := last_key nmS hy
 simp [this]
theorem four5 {w : World} {n : NodeP} {id k p : Int} {tag text : ByteArray} {x y z u : Hd} (h : RnR w n (id, k, tag, text, x, y, z, p, u)) : SlT n.cls x.v w ∧ SlT n.att y.v w ∧ SlT n.sty z.v w ∧ SlT n.kids u.v w := by
 obtain ⟨a1, c1, a2, c2, a3, c3, a4, c4, e, h1, h2, h3, h4⟩ := h
 simp only [Prod.mk.injEq] at e
 obtain ⟨-, -, -, -, rfl, rfl, rfl, -, rfl⟩ := e
 exact ⟨h1, h2, h3, h4⟩
section
variable {B : Bs} {w : World} {L : List HP} {D : DomP} {K : Nat} {r0 : Value}
set_option maxHeartbeats 8000000 in
theorem rset5_0 (id : Int) (name v : ByteArray) (num : Int) (hnl : name.size ≤ 1000) (hW : WfD D) (hb : Bnd K D) (hK : K ≤ 800) (hS : St B (refO D r0 :: L) w) :
  Calls Tryz.prog 28 #[r0, .int .i64 0, .int .i64 id, .string name, .string v, .int .i64 num] w (Ret fun q w' => ∃ r, q = .tuple #[r, .int .i64 (setP D 0 id name v num).2] ∧ St B (refO (setP D 0 id name v num).1 r :: L) w') := by
 obtain ⟨H, ao, c, rfl, hS1⟩ := hS.refO .here
 clear hS
 have hS := hS1
 clear hS1
 have hRd := hS.rdr .here
 have hHl := hRd.2.len
 have hlen := hb.len
 have hret : ∀ {w : World} {X : List HP}, Sub (rdH (Rd5R D H ao c) :: L) X → St B X w → St B (refO D (rdV D H.length ao c) :: L) w := fun hs h => refO.of (h.sub hs)
 have hRn := hRd.2
 clear hRd
 refine enter Tryz.func28 rfl Tryz.ntmps28 rfl (fun a hk => ?_)
 refine wpIn_seq ?_;refine wpIn_region_lit ?_
 refine st_box hk hS ?_;clear hk hS a;intro w b6 hS a hk
 refine st_alloc hk hS ?_;clear hk hS a;intro w b12 hS a hk
 (repeat' (first|((first|refine wx1 ?_|refine wx2 ?_ ?_<;>intro hp|refine s_end hk ?_)<;>(clear hk a;intro a hk))|((first|refine wx3 ?_;intro w b|refine wx4 ?_;intro w|refine wx5 ?_;intro w v);clear hk hS a;intro hS a hk)|refine wx0 ?_|fail))
 refine sg hk (g_callO hk (hf := by kernel_rfl) (hc := rfind5_any D.most D.next H _ id _ (hS.rdr (D := D) (H := H) (ao := ao) (c := c) atx).1 (by omega)) (h := ?_));clear hk a;rintro _ w ⟨rfl, hS1⟩ a hk;replace hS := hS.call0 hS1;clear hS1
 cases hn : D.f id with
 | none =>
  have e : setP D 0 id name v num = (D, 11) := by unfold setP;rw [hn]
  rw [e]
  rw [hRn.non hn] at hk
  simp only [Option.getD_none, Option.isSome_none] at hk
  (repeat' (first|((first|refine wx1 ?_|refine wx2 ?_ ?_<;>intro hp|refine s_end hk ?_)<;>(clear hk a;intro a hk))|((first|refine wx3 ?_;intro w b|refine wx4 ?_;intro w|refine wx5 ?_;intro w v);clear hk hS a;intro hS a hk)|refine wx0 ?_|fail))
  exact done2R hk rfl (.str hS (hT := aT rfl) (hs := zT rfl)) (.tmp rfl) (h := ⟨_, rfl, hret (.cons atx sbx) hS⟩)
 | some n =>
  obtain ⟨x, hxn, hrn⟩ := hRn.fnd hn
  obtain ⟨a5, c5, a6, c6, a7, c7, a8, c8, rfl, -⟩ := hrn
  rw [hxn] at hk
  simp only [Option.getD_some, Option.isSome_some] at hk
  have hnb := hb.get hn
  have b1 := hnb.cls
  have b2 := hnb.att
  have b3 := hnb.sty
  by_cases h0 : id = 0
  ·have ho : ownP D id 2 name = 1 := by unfold ownP;rw [hn];simp only;rw [if_pos h0]
   rw [setP_no (kind := 0) (show ownP D id (kndC 0) name ≠ 0 by show ownP D id 2 name ≠ 0;omega), show ownP D id (kndC 0) name = 1 from ho]
   (repeat' (first|((first|refine wx1 ?_|refine wx2 ?_ ?_<;>intro hp|refine s_end hk ?_)<;>(clear hk a;intro a hk))|((first|refine wx3 ?_;intro w b|refine wx4 ?_;intro w|refine wx5 ?_;intro w v);clear hk hS a;intro hS a hk)|refine wx0 ?_|fail))
   exact done2R hk rfl (.str hS (hT := aT rfl) (hs := zT rfl)) (.tmp rfl) (h := ⟨_, rfl, hret (.cons atx sbx) hS⟩)
  ·rcases hW.wf.knd id n hn with hkd | hkd
   ·have ho : ownP D id 2 name = 14 := by unfold ownP;rw [hn];simp only;rw [if_neg h0, if_pos (show n.kind ≠ 2 by omega)]
    rw [setP_no (kind := 0) (show ownP D id (kndC 0) name ≠ 0 by show ownP D id 2 name ≠ 0;omega), show ownP D id (kndC 0) name = 14 from ho]
    (repeat' (first|((first|refine wx1 ?_|refine wx2 ?_ ?_<;>intro hp|refine s_end hk ?_)<;>(clear hk a;intro a hk))|((first|refine wx3 ?_;intro w b|refine wx4 ?_;intro w|refine wx5 ?_;intro w v);clear hk hS a;intro hS a hk)|refine wx0 ?_|fail))
    exact done2R hk rfl (.str hS (hT := aT rfl) (hs := zT rfl)) (.tmp rfl) (h := ⟨_, rfl, hret (.cons atx sbx) hS⟩)
   ·(repeat' (first|((first|refine wx1 ?_|refine wx2 ?_ ?_<;>intro hp|refine s_end hk ?_)<;>(clear hk a;intro a hk))|((first|refine wx3 ?_;intro w b|refine wx4 ?_;intro w|refine wx5 ?_;intro w v);clear hk hS a;intro hS a hk)|refine wx0 ?_|fail))
    rename Nat => b14
    refine sg hk (g_callO hk (hf := by kernel_rfl) (hc := rname_any name hnl _) (h := ?_));clear hk a;rintro _ w ⟨rfl, hS1⟩ a hk;replace hS := hS.call0 hS1;clear hS1
    cases hnm : nameS name with
    | false =>
     have ho : ownP D id 2 name = 2 := by unfold ownP;rw [hn];simp only;rw [if_neg h0, if_neg (show ¬ (n.kind ≠ 2) from fun h => h hkd), if_pos (by first | exact ⟨rfl, hnm⟩ | exact ⟨trivial, hnm⟩)]
     rw [setP_no (kind := 0) (show ownP D id (kndC 0) name ≠ 0 by show ownP D id 2 name ≠ 0;omega), show ownP D id (kndC 0) name = 2 from ho]
     rw [hnm] at hk
     (repeat' (first|((first|refine wx1 ?_|refine wx2 ?_ ?_<;>intro hp|refine s_end hk ?_)<;>(clear hk a;intro a hk))|((first|refine wx3 ?_;intro w b|refine wx4 ?_;intro w|refine wx5 ?_;intro w v);clear hk hS a;intro hS a hk)|refine wx0 ?_|fail))
     exact done2R hk rfl (.str hS (hT := aT rfl) (hs := zT rfl)) (.tmp rfl) (h := ⟨_, rfl, hret (.cons atx sbx) hS⟩)
    | true =>
     have ho : ownP D id (kndC 0) name = 0 := by show ownP D id 2 name = 0;exact (by unfold ownP;rw [hn];simp only;rw [if_neg h0, if_neg (show ¬ (n.kind ≠ 2) from fun h => h hkd), if_neg (fun h => by rw [hnm] at h;cases h.2)])
     rw [hnm] at hk
     rw [setP_some (kind := 0) (n' := { n with tag := name }) hn ho (by simp [chgP])]
     (repeat' (first|((first|refine wx1 ?_|refine wx2 ?_ ?_<;>intro hp|refine s_end hk ?_)<;>(clear hk a;intro a hk))|((first|refine wx3 ?_;intro w b|refine wx4 ?_;intro w|refine wx5 ?_;intro w v);clear hk hS a;intro hS a hk)|refine wx0 ?_|fail))
     refine sg hk (g_callO hk (hf := by kernel_rfl) (hc := rputO_any D.most D.next H _ (n.id, n.kind, name, n.text, ⟨a5, n.cls.length, c5⟩, ⟨a6, n.att.length, c6⟩, ⟨a7, n.sty.length, c7⟩, n.par, ⟨a8, n.kids.length, c8⟩) _ (hS.rdr (D := D) (H := H) (ao := ao) (c := c) atx).1 (by omega)) (h := ?_));clear hk a;rintro vp w hS1 a hk;replace hS := hS.call hS1;clear hS1
     rw [List.cons_append, List.nil_append] at hS
     obtain ⟨ax, cx, rfl, hS1⟩ := hS.putO (r := vp) atx
     clear hS
     have hS := hS1
     clear hS1
     (repeat' (first|((first|refine wx1 ?_|refine wx2 ?_ ?_<;>intro hp|refine s_end hk ?_)<;>(clear hk a;intro a hk))|((first|refine wx3 ?_;intro w b|refine wx4 ?_;intro w|refine wx5 ?_;intro w v);clear hk hS a;intro hS a hk)|refine wx0 ?_|fail))
     refine done2R hk rfl (.str hS (hT := aT rfl) (hs := zT rfl)) (.tmp rfl) (h := ⟨_, rfl, ?_⟩)
     refine refO.of (L := L) (D := { D with l := putP D.l { n with tag := name } }) (H := putR H (n.id, n.kind, name, n.text, ⟨a5, n.cls.length, c5⟩, ⟨a6, n.att.length, c6⟩, ⟨a7, n.sty.length, c7⟩, n.par, ⟨a8, n.kids.length, c8⟩)) (ao := ax) (c := cx) (rdH.of (L := L) (L1 := [OwT 73 (putR H (n.id, n.kind, name, n.text, ⟨a5, n.cls.length, c5⟩, ⟨a6, n.att.length, c6⟩, ⟨a7, n.sty.length, c7⟩, n.par, ⟨a8, n.kids.length, c8⟩)) (.slice ax (putR H (n.id, n.kind, name, n.text, ⟨a5, n.cls.length, c5⟩, ⟨a6, n.att.length, c6⟩, ⟨a7, n.sty.length, c7⟩, n.par, ⟨a8, n.kids.length, c8⟩)).length cx), rdH (Rd5R D H ao c)]) (hS.sub (.cons atx (.cons atx sbx))) fun g hg => ?_)
     have g1 := OwT.rd (hg (OwT 73 (putR H (n.id, n.kind, name, n.text, ⟨a5, n.cls.length, c5⟩, ⟨a6, n.att.length, c6⟩, ⟨a7, n.sty.length, c7⟩, n.par, ⟨a8, n.kids.length, c8⟩)) (.slice ax (putR H (n.id, n.kind, name, n.text, ⟨a5, n.cls.length, c5⟩, ⟨a6, n.att.length, c6⟩, ⟨a7, n.sty.length, c7⟩, n.par, ⟨a8, n.kids.length, c8⟩)).length cx)) (by simp))
     have g3 := rdH.rd (Rd5R.stays D H ao c) (hg (rdH (Rd5R D H ao c)) (by simp))
     obtain ⟨s1, s2, s3, s4⟩ := four5 (fnd_at g3 hn hxn)
     exact ⟨g1, RowsR.put (n := { n with tag := name }) g3.2 ⟨a5, c5, a6, c6, a7, c7, a8, c8, rfl, s1, s2, s3, s4⟩⟩
set_option maxHeartbeats 8000000 in
theorem rset5_1 (id : Int) (name v : ByteArray) (num : Int) (hnl : name.size ≤ 1000) (hW : WfD D) (hb : Bnd K D) (hK : K ≤ 800) (hS : St B (refO D r0 :: L) w) :
  Calls Tryz.prog 28 #[r0, .int .i64 1, .int .i64 id, .string name, .string v, .int .i64 num] w (Ret fun q w' => ∃ r, q = .tuple #[r, .int .i64 (setP D 1 id name v num).2] ∧ St B (refO (setP D 1 id name v num).1 r :: L) w') := by
 obtain ⟨H, ao, c, rfl, hS1⟩ := hS.refO .here
 clear hS
 have hS := hS1
 clear hS1
 have hRd := hS.rdr .here
 have hHl := hRd.2.len
 have hlen := hb.len
 have hret : ∀ {w : World} {X : List HP}, Sub (rdH (Rd5R D H ao c) :: L) X → St B X w → St B (refO D (rdV D H.length ao c) :: L) w := fun hs h => refO.of (h.sub hs)
 have hRn := hRd.2
 clear hRd
 refine enter Tryz.func28 rfl Tryz.ntmps28 rfl (fun a hk => ?_)
 refine wpIn_seq ?_;refine wpIn_region_lit ?_
 refine st_box hk hS ?_;clear hk hS a;intro w b6 hS a hk
 refine st_alloc hk hS ?_;clear hk hS a;intro w b12 hS a hk
 (repeat' (first|((first|refine wx1 ?_|refine wx2 ?_ ?_<;>intro hp|refine s_end hk ?_)<;>(clear hk a;intro a hk))|((first|refine wx3 ?_;intro w b|refine wx4 ?_;intro w|refine wx5 ?_;intro w v);clear hk hS a;intro hS a hk)|refine wx0 ?_|fail))
 refine sg hk (g_callO hk (hf := by kernel_rfl) (hc := rfind5_any D.most D.next H _ id _ (hS.rdr (D := D) (H := H) (ao := ao) (c := c) atx).1 (by omega)) (h := ?_));clear hk a;rintro _ w ⟨rfl, hS1⟩ a hk;replace hS := hS.call0 hS1;clear hS1
 cases hn : D.f id with
 | none =>
  have e : setP D 1 id name v num = (D, 11) := by unfold setP;rw [hn]
  rw [e]
  rw [hRn.non hn] at hk
  simp only [Option.getD_none, Option.isSome_none] at hk
  (repeat' (first|((first|refine wx1 ?_|refine wx2 ?_ ?_<;>intro hp|refine s_end hk ?_)<;>(clear hk a;intro a hk))|((first|refine wx3 ?_;intro w b|refine wx4 ?_;intro w|refine wx5 ?_;intro w v);clear hk hS a;intro hS a hk)|refine wx0 ?_|fail))
  exact done2R hk rfl (.str hS (hT := aT rfl) (hs := zT rfl)) (.tmp rfl) (h := ⟨_, rfl, hret (.cons atx sbx) hS⟩)
 | some n =>
  obtain ⟨x, hxn, hrn⟩ := hRn.fnd hn
  obtain ⟨a5, c5, a6, c6, a7, c7, a8, c8, rfl, -⟩ := hrn
  rw [hxn] at hk
  simp only [Option.getD_some, Option.isSome_some] at hk
  have hnb := hb.get hn
  have b1 := hnb.cls
  have b2 := hnb.att
  have b3 := hnb.sty
  by_cases h0 : id = 0
  ·have ho : ownP D id 1 name = 1 := by unfold ownP;rw [hn];simp only;rw [if_pos h0]
   rw [setP_no (kind := 1) (show ownP D id (kndC 1) name ≠ 0 by show ownP D id 1 name ≠ 0;omega), show ownP D id (kndC 1) name = 1 from ho]
   (repeat' (first|((first|refine wx1 ?_|refine wx2 ?_ ?_<;>intro hp|refine s_end hk ?_)<;>(clear hk a;intro a hk))|((first|refine wx3 ?_;intro w b|refine wx4 ?_;intro w|refine wx5 ?_;intro w v);clear hk hS a;intro hS a hk)|refine wx0 ?_|fail))
   exact done2R hk rfl (.str hS (hT := aT rfl) (hs := zT rfl)) (.tmp rfl) (h := ⟨_, rfl, hret (.cons atx sbx) hS⟩)
  ·rcases hW.wf.knd id n hn with hkd | hkd
   ·have ho : ownP D id (kndC 1) name = 0 := by show ownP D id 1 name = 0;exact (by unfold ownP;rw [hn];simp only;rw [if_neg h0, if_neg (show ¬ (n.kind ≠ 1) from fun h => h hkd), if_neg (fun h => by have := h.1;omega)])
    (repeat' (first|((first|refine wx1 ?_|refine wx2 ?_ ?_<;>intro hp|refine s_end hk ?_)<;>(clear hk a;intro a hk))|((first|refine wx3 ?_;intro w b|refine wx4 ?_;intro w|refine wx5 ?_;intro w v);clear hk hS a;intro hS a hk)|refine wx0 ?_|fail))
    rename Nat => b14
    rw [setP_some (kind := 1) (n' := { n with text := v }) hn ho (by simp [chgP])]
    (repeat' (first|((first|refine wx1 ?_|refine wx2 ?_ ?_<;>intro hp|refine s_end hk ?_)<;>(clear hk a;intro a hk))|((first|refine wx3 ?_;intro w b|refine wx4 ?_;intro w|refine wx5 ?_;intro w v);clear hk hS a;intro hS a hk)|refine wx0 ?_|fail))
    refine sg hk (g_callO hk (hf := by kernel_rfl) (hc := rputO_any D.most D.next H _ (n.id, n.kind, n.tag, v, ⟨a5, n.cls.length, c5⟩, ⟨a6, n.att.length, c6⟩, ⟨a7, n.sty.length, c7⟩, n.par, ⟨a8, n.kids.length, c8⟩) _ (hS.rdr (D := D) (H := H) (ao := ao) (c := c) atx).1 (by omega)) (h := ?_));clear hk a;rintro vp w hS1 a hk;replace hS := hS.call hS1;clear hS1
    rw [List.cons_append, List.nil_append] at hS
    obtain ⟨ax, cx, rfl, hS1⟩ := hS.putO (r := vp) atx
    clear hS
    have hS := hS1
    clear hS1
    (repeat' (first|((first|refine wx1 ?_|refine wx2 ?_ ?_<;>intro hp|refine s_end hk ?_)<;>(clear hk a;intro a hk))|((first|refine wx3 ?_;intro w b|refine wx4 ?_;intro w|refine wx5 ?_;intro w v);clear hk hS a;intro hS a hk)|refine wx0 ?_|fail))
    refine done2R hk rfl (.str hS (hT := aT rfl) (hs := zT rfl)) (.tmp rfl) (h := ⟨_, rfl, ?_⟩)
    refine refO.of (L := L) (D := { D with l := putP D.l { n with text := v } }) (H := putR H (n.id, n.kind, n.tag, v, ⟨a5, n.cls.length, c5⟩, ⟨a6, n.att.length, c6⟩, ⟨a7, n.sty.length, c7⟩, n.par, ⟨a8, n.kids.length, c8⟩)) (ao := ax) (c := cx) (rdH.of (L := L) (L1 := [OwT 73 (putR H (n.id, n.kind, n.tag, v, ⟨a5, n.cls.length, c5⟩, ⟨a6, n.att.length, c6⟩, ⟨a7, n.sty.length, c7⟩, n.par, ⟨a8, n.kids.length, c8⟩)) (.slice ax (putR H (n.id, n.kind, n.tag, v, ⟨a5, n.cls.length, c5⟩, ⟨a6, n.att.length, c6⟩, ⟨a7, n.sty.length, c7⟩, n.par, ⟨a8, n.kids.length, c8⟩)).length cx), rdH (Rd5R D H ao c)]) (hS.sub (.cons atx (.cons atx sbx))) fun g hg => ?_)
    have g1 := OwT.rd (hg (OwT 73 (putR H (n.id, n.kind, n.tag, v, ⟨a5, n.cls.length, c5⟩, ⟨a6, n.att.length, c6⟩, ⟨a7, n.sty.length, c7⟩, n.par, ⟨a8, n.kids.length, c8⟩)) (.slice ax (putR H (n.id, n.kind, n.tag, v, ⟨a5, n.cls.length, c5⟩, ⟨a6, n.att.length, c6⟩, ⟨a7, n.sty.length, c7⟩, n.par, ⟨a8, n.kids.length, c8⟩)).length cx)) (by simp))
    have g3 := rdH.rd (Rd5R.stays D H ao c) (hg (rdH (Rd5R D H ao c)) (by simp))
    obtain ⟨s1, s2, s3, s4⟩ := four5 (fnd_at g3 hn hxn)
    exact ⟨g1, RowsR.put (n := { n with text := v }) g3.2 ⟨a5, c5, a6, c6, a7, c7, a8, c8, rfl, s1, s2, s3, s4⟩⟩
   ·have ho : ownP D id 1 name = 14 := by unfold ownP;rw [hn];simp only;rw [if_neg h0, if_pos (show n.kind ≠ 1 by omega)]
    rw [setP_no (kind := 1) (show ownP D id (kndC 1) name ≠ 0 by show ownP D id 1 name ≠ 0;omega), show ownP D id (kndC 1) name = 14 from ho]
    (repeat' (first|((first|refine wx1 ?_|refine wx2 ?_ ?_<;>intro hp|refine s_end hk ?_)<;>(clear hk a;intro a hk))|((first|refine wx3 ?_;intro w b|refine wx4 ?_;intro w|refine wx5 ?_;intro w v);clear hk hS a;intro hS a hk)|refine wx0 ?_|fail))
    exact done2R hk rfl (.str hS (hT := aT rfl) (hs := zT rfl)) (.tmp rfl) (h := ⟨_, rfl, hret (.cons atx sbx) hS⟩)
set_option maxHeartbeats 8000000 in
theorem rset5_2 (id : Int) (name v : ByteArray) (num : Int) (hnl : name.size ≤ 1000) (hW : WfD D) (hb : Bnd K D) (hK : K ≤ 800) (hS : St B (refO D r0 :: L) w) :
  Calls Tryz.prog 28 #[r0, .int .i64 2, .int .i64 id, .string name, .string v, .int .i64 num] w (Ret fun q w' => ∃ r, q = .tuple #[r, .int .i64 (setP D 2 id name v num).2] ∧ St B (refO (setP D 2 id name v num).1 r :: L) w') := by
 obtain ⟨H, ao, c, rfl, hS1⟩ := hS.refO .here
 clear hS
 have hS := hS1
 clear hS1
 have hRd := hS.rdr .here
 have hHl := hRd.2.len
 have hlen := hb.len
 have hret : ∀ {w : World} {X : List HP}, Sub (rdH (Rd5R D H ao c) :: L) X → St B X w → St B (refO D (rdV D H.length ao c) :: L) w := fun hs h => refO.of (h.sub hs)
 have hRn := hRd.2
 clear hRd
 refine enter Tryz.func28 rfl Tryz.ntmps28 rfl (fun a hk => ?_)
 refine wpIn_seq ?_;refine wpIn_region_lit ?_
 refine st_box hk hS ?_;clear hk hS a;intro w b6 hS a hk
 refine st_alloc hk hS ?_;clear hk hS a;intro w b12 hS a hk
 (repeat' (first|((first|refine wx1 ?_|refine wx2 ?_ ?_<;>intro hp|refine s_end hk ?_)<;>(clear hk a;intro a hk))|((first|refine wx3 ?_;intro w b|refine wx4 ?_;intro w|refine wx5 ?_;intro w v);clear hk hS a;intro hS a hk)|refine wx0 ?_|fail))
 refine sg hk (g_callO hk (hf := by kernel_rfl) (hc := rfind5_any D.most D.next H _ id _ (hS.rdr (D := D) (H := H) (ao := ao) (c := c) atx).1 (by omega)) (h := ?_));clear hk a;rintro _ w ⟨rfl, hS1⟩ a hk;replace hS := hS.call0 hS1;clear hS1
 cases hn : D.f id with
 | none =>
  have e : setP D 2 id name v num = (D, 11) := by unfold setP;rw [hn]
  rw [e]
  rw [hRn.non hn] at hk
  simp only [Option.getD_none, Option.isSome_none] at hk
  (repeat' (first|((first|refine wx1 ?_|refine wx2 ?_ ?_<;>intro hp|refine s_end hk ?_)<;>(clear hk a;intro a hk))|((first|refine wx3 ?_;intro w b|refine wx4 ?_;intro w|refine wx5 ?_;intro w v);clear hk hS a;intro hS a hk)|refine wx0 ?_|fail))
  exact done2R hk rfl (.str hS (hT := aT rfl) (hs := zT rfl)) (.tmp rfl) (h := ⟨_, rfl, hret (.cons atx sbx) hS⟩)
 | some n =>
  obtain ⟨x, hxn, hrn⟩ := hRn.fnd hn
  obtain ⟨a5, c5, a6, c6, a7, c7, a8, c8, rfl, -⟩ := hrn
  rw [hxn] at hk
  simp only [Option.getD_some, Option.isSome_some] at hk
  have hnb := hb.get hn
  have b1 := hnb.cls
  have b2 := hnb.att
  have b3 := hnb.sty
  by_cases h0 : id = 0
  ·have ho : ownP D id 2 name = 1 := by unfold ownP;rw [hn];simp only;rw [if_pos h0]
   rw [setP_no (kind := 2) (show ownP D id (kndC 2) name ≠ 0 by show ownP D id 2 name ≠ 0;omega), show ownP D id (kndC 2) name = 1 from ho]
   (repeat' (first|((first|refine wx1 ?_|refine wx2 ?_ ?_<;>intro hp|refine s_end hk ?_)<;>(clear hk a;intro a hk))|((first|refine wx3 ?_;intro w b|refine wx4 ?_;intro w|refine wx5 ?_;intro w v);clear hk hS a;intro hS a hk)|refine wx0 ?_|fail))
   exact done2R hk rfl (.str hS (hT := aT rfl) (hs := zT rfl)) (.tmp rfl) (h := ⟨_, rfl, hret (.cons atx sbx) hS⟩)
  ·rcases hW.wf.knd id n hn with hkd | hkd
   ·have ho : ownP D id 2 name = 14 := by unfold ownP;rw [hn];simp only;rw [if_neg h0, if_pos (show n.kind ≠ 2 by omega)]
    rw [setP_no (kind := 2) (show ownP D id (kndC 2) name ≠ 0 by show ownP D id 2 name ≠ 0;omega), show ownP D id (kndC 2) name = 14 from ho]
    (repeat' (first|((first|refine wx1 ?_|refine wx2 ?_ ?_<;>intro hp|refine s_end hk ?_)<;>(clear hk a;intro a hk))|((first|refine wx3 ?_;intro w b|refine wx4 ?_;intro w|refine wx5 ?_;intro w v);clear hk hS a;intro hS a hk)|refine wx0 ?_|fail))
    exact done2R hk rfl (.str hS (hT := aT rfl) (hs := zT rfl)) (.tmp rfl) (h := ⟨_, rfl, hret (.cons atx sbx) hS⟩)
   ·(repeat' (first|((first|refine wx1 ?_|refine wx2 ?_ ?_<;>intro hp|refine s_end hk ?_)<;>(clear hk a;intro a hk))|((first|refine wx3 ?_;intro w b|refine wx4 ?_;intro w|refine wx5 ?_;intro w v);clear hk hS a;intro hS a hk)|refine wx0 ?_|fail))
    rename Nat => b14
    refine sg hk (g_callO hk (hf := by kernel_rfl) (hc := rname_any name hnl _) (h := ?_));clear hk a;rintro _ w ⟨rfl, hS1⟩ a hk;replace hS := hS.call0 hS1;clear hS1
    cases hnm : nameS name with
    | false =>
     have ho : ownP D id 2 name = 2 := by unfold ownP;rw [hn];simp only;rw [if_neg h0, if_neg (show ¬ (n.kind ≠ 2) from fun h => h hkd), if_pos (by first | exact ⟨rfl, hnm⟩ | exact ⟨trivial, hnm⟩)]
     rw [setP_no (kind := 2) (show ownP D id (kndC 2) name ≠ 0 by show ownP D id 2 name ≠ 0;omega), show ownP D id (kndC 2) name = 2 from ho]
     rw [hnm] at hk
     (repeat' (first|((first|refine wx1 ?_|refine wx2 ?_ ?_<;>intro hp|refine s_end hk ?_)<;>(clear hk a;intro a hk))|((first|refine wx3 ?_;intro w b|refine wx4 ?_;intro w|refine wx5 ?_;intro w v);clear hk hS a;intro hS a hk)|refine wx0 ?_|fail))
     exact done2R hk rfl (.str hS (hT := aT rfl) (hs := zT rfl)) (.tmp rfl) (h := ⟨_, rfl, hret (.cons atx sbx) hS⟩)
    | true =>
     have ho : ownP D id (kndC 2) name = 0 := by show ownP D id 2 name = 0;exact (by unfold ownP;rw [hn];simp only;rw [if_neg h0, if_neg (show ¬ (n.kind ≠ 2) from fun h => h hkd), if_neg (fun h => by rw [hnm] at h;cases h.2)])
     rw [hnm] at hk
     rw [setP_some (kind := 2) (n' := { n with att := putF nmS n.att (name, v) }) hn ho (by simp [chgP])]
     (repeat' (first|((first|refine wx1 ?_|refine wx2 ?_ ?_<;>intro hp|refine s_end hk ?_)<;>(clear hk a;intro a hk))|((first|refine wx3 ?_;intro w b|refine wx4 ?_;intro w|refine wx5 ?_;intro w v);clear hk hS a;intro hS a hk)|refine wx0 ?_|fail))
     refine sg hk (g_callO hk (hf := by kernel_rfl) (hc := rsetA_any n.att name v _ _ (four5 (fnd_at (hS.rdr (D := D) (H := H) (ao := ao) (c := c) atx) hn hxn)).2.1 (by omega) hnb.ra) (h := ?_));clear hk a;rintro vk w hS1 a hk;replace hS := hS.call hS1;clear hS1
     rw [List.cons_append, List.nil_append] at hS
     obtain ⟨aovk, cvk, hshp, _⟩ := (OwT.rd (hS.rd (A := OwT 102 _ vk) atx)).shape;subst hshp
     (repeat' (first|((first|refine wx1 ?_|refine wx2 ?_ ?_<;>intro hp|refine s_end hk ?_)<;>(clear hk a;intro a hk))|((first|refine wx3 ?_;intro w b|refine wx4 ?_;intro w|refine wx5 ?_;intro w v);clear hk hS a;intro hS a hk)|refine wx0 ?_|fail))
     refine sg hk (g_callO hk (hf := by kernel_rfl) (hc := rputO_any D.most D.next H _ (n.id, n.kind, n.tag, n.text, ⟨a5, n.cls.length, c5⟩, ⟨aovk, (putF nmS n.att (name, v)).length, cvk⟩, ⟨a7, n.sty.length, c7⟩, n.par, ⟨a8, n.kids.length, c8⟩) _ (hS.rdr (D := D) (H := H) (ao := ao) (c := c) atx).1 (by omega)) (h := ?_));clear hk a;rintro vp w hS1 a hk;replace hS := hS.call hS1;clear hS1
     rw [List.cons_append, List.nil_append] at hS
     obtain ⟨ax, cx, rfl, hS1⟩ := hS.putO (r := vp) atx
     clear hS
     have hS := hS1
     clear hS1
     (repeat' (first|((first|refine wx1 ?_|refine wx2 ?_ ?_<;>intro hp|refine s_end hk ?_)<;>(clear hk a;intro a hk))|((first|refine wx3 ?_;intro w b|refine wx4 ?_;intro w|refine wx5 ?_;intro w v);clear hk hS a;intro hS a hk)|refine wx0 ?_|fail))
     refine done2R hk rfl (.str hS (hT := aT rfl) (hs := zT rfl)) (.tmp rfl) (h := ⟨_, rfl, ?_⟩)
     refine refO.of (L := L) (D := { D with l := putP D.l { n with att := putF nmS n.att (name, v) } }) (H := putR H (n.id, n.kind, n.tag, n.text, ⟨a5, n.cls.length, c5⟩, ⟨aovk, (putF nmS n.att (name, v)).length, cvk⟩, ⟨a7, n.sty.length, c7⟩, n.par, ⟨a8, n.kids.length, c8⟩)) (ao := ax) (c := cx) (rdH.of (L := L) (L1 := [OwT 73 (putR H (n.id, n.kind, n.tag, n.text, ⟨a5, n.cls.length, c5⟩, ⟨aovk, (putF nmS n.att (name, v)).length, cvk⟩, ⟨a7, n.sty.length, c7⟩, n.par, ⟨a8, n.kids.length, c8⟩)) (.slice ax (putR H (n.id, n.kind, n.tag, n.text, ⟨a5, n.cls.length, c5⟩, ⟨aovk, (putF nmS n.att (name, v)).length, cvk⟩, ⟨a7, n.sty.length, c7⟩, n.par, ⟨a8, n.kids.length, c8⟩)).length cx), OwT 102 (putF nmS n.att (name, v)) (.slice aovk (putF nmS n.att (name, v)).length cvk), rdH (Rd5R D H ao c)]) (hS.sub (.cons atx (.cons atx (.cons atx sbx)))) fun g hg => ?_)
     have g1 := OwT.rd (hg (OwT 73 (putR H (n.id, n.kind, n.tag, n.text, ⟨a5, n.cls.length, c5⟩, ⟨aovk, (putF nmS n.att (name, v)).length, cvk⟩, ⟨a7, n.sty.length, c7⟩, n.par, ⟨a8, n.kids.length, c8⟩)) (.slice ax (putR H (n.id, n.kind, n.tag, n.text, ⟨a5, n.cls.length, c5⟩, ⟨aovk, (putF nmS n.att (name, v)).length, cvk⟩, ⟨a7, n.sty.length, c7⟩, n.par, ⟨a8, n.kids.length, c8⟩)).length cx)) (by simp))
     have g2 := OwT.rd (hg (OwT 102 (putF nmS n.att (name, v)) (.slice aovk (putF nmS n.att (name, v)).length cvk)) (by simp))
     have g3 := rdH.rd (Rd5R.stays D H ao c) (hg (rdH (Rd5R D H ao c)) (by simp))
     obtain ⟨s1, s2, s3, s4⟩ := four5 (fnd_at g3 hn hxn)
     exact ⟨g1, RowsR.put (n := { n with att := putF nmS n.att (name, v) }) g3.2 ⟨a5, c5, aovk, cvk, a7, c7, a8, c8, rfl, s1, g2, s3, s4⟩⟩
set_option maxHeartbeats 8000000 in
theorem rset5_3 (id : Int) (name v : ByteArray) (num : Int) (hnl : name.size ≤ 1000) (hW : WfD D) (hb : Bnd K D) (hK : K ≤ 800) (hS : St B (refO D r0 :: L) w) :
  Calls Tryz.prog 28 #[r0, .int .i64 3, .int .i64 id, .string name, .string v, .int .i64 num] w (Ret fun q w' => ∃ r, q = .tuple #[r, .int .i64 (setP D 3 id name v num).2] ∧ St B (refO (setP D 3 id name v num).1 r :: L) w') := by
 obtain ⟨H, ao, c, rfl, hS1⟩ := hS.refO .here
 clear hS
 have hS := hS1
 clear hS1
 have hRd := hS.rdr .here
 have hHl := hRd.2.len
 have hlen := hb.len
 have hret : ∀ {w : World} {X : List HP}, Sub (rdH (Rd5R D H ao c) :: L) X → St B X w → St B (refO D (rdV D H.length ao c) :: L) w := fun hs h => refO.of (h.sub hs)
 have hRn := hRd.2
 clear hRd
 refine enter Tryz.func28 rfl Tryz.ntmps28 rfl (fun a hk => ?_)
 refine wpIn_seq ?_;refine wpIn_region_lit ?_
 refine st_box hk hS ?_;clear hk hS a;intro w b6 hS a hk
 refine st_alloc hk hS ?_;clear hk hS a;intro w b12 hS a hk
 (repeat' (first|((first|refine wx1 ?_|refine wx2 ?_ ?_<;>intro hp|refine s_end hk ?_)<;>(clear hk a;intro a hk))|((first|refine wx3 ?_;intro w b|refine wx4 ?_;intro w|refine wx5 ?_;intro w v);clear hk hS a;intro hS a hk)|refine wx0 ?_|fail))
 refine sg hk (g_callO hk (hf := by kernel_rfl) (hc := rfind5_any D.most D.next H _ id _ (hS.rdr (D := D) (H := H) (ao := ao) (c := c) atx).1 (by omega)) (h := ?_));clear hk a;rintro _ w ⟨rfl, hS1⟩ a hk;replace hS := hS.call0 hS1;clear hS1
 cases hn : D.f id with
 | none =>
  have e : setP D 3 id name v num = (D, 11) := by unfold setP;rw [hn]
  rw [e]
  rw [hRn.non hn] at hk
  simp only [Option.getD_none, Option.isSome_none] at hk
  (repeat' (first|((first|refine wx1 ?_|refine wx2 ?_ ?_<;>intro hp|refine s_end hk ?_)<;>(clear hk a;intro a hk))|((first|refine wx3 ?_;intro w b|refine wx4 ?_;intro w|refine wx5 ?_;intro w v);clear hk hS a;intro hS a hk)|refine wx0 ?_|fail))
  exact done2R hk rfl (.str hS (hT := aT rfl) (hs := zT rfl)) (.tmp rfl) (h := ⟨_, rfl, hret (.cons atx sbx) hS⟩)
 | some n =>
  obtain ⟨x, hxn, hrn⟩ := hRn.fnd hn
  obtain ⟨a5, c5, a6, c6, a7, c7, a8, c8, rfl, -⟩ := hrn
  rw [hxn] at hk
  simp only [Option.getD_some, Option.isSome_some] at hk
  have hnb := hb.get hn
  have b1 := hnb.cls
  have b2 := hnb.att
  have b3 := hnb.sty
  by_cases h0 : id = 0
  ·have ho : ownP D id 2 name = 1 := by unfold ownP;rw [hn];simp only;rw [if_pos h0]
   rw [setP_no (kind := 3) (show ownP D id (kndC 3) name ≠ 0 by show ownP D id 2 name ≠ 0;omega), show ownP D id (kndC 3) name = 1 from ho]
   (repeat' (first|((first|refine wx1 ?_|refine wx2 ?_ ?_<;>intro hp|refine s_end hk ?_)<;>(clear hk a;intro a hk))|((first|refine wx3 ?_;intro w b|refine wx4 ?_;intro w|refine wx5 ?_;intro w v);clear hk hS a;intro hS a hk)|refine wx0 ?_|fail))
   exact done2R hk rfl (.str hS (hT := aT rfl) (hs := zT rfl)) (.tmp rfl) (h := ⟨_, rfl, hret (.cons atx sbx) hS⟩)
  ·rcases hW.wf.knd id n hn with hkd | hkd
   ·have ho : ownP D id 2 name = 14 := by unfold ownP;rw [hn];simp only;rw [if_neg h0, if_pos (show n.kind ≠ 2 by omega)]
    rw [setP_no (kind := 3) (show ownP D id (kndC 3) name ≠ 0 by show ownP D id 2 name ≠ 0;omega), show ownP D id (kndC 3) name = 14 from ho]
    (repeat' (first|((first|refine wx1 ?_|refine wx2 ?_ ?_<;>intro hp|refine s_end hk ?_)<;>(clear hk a;intro a hk))|((first|refine wx3 ?_;intro w b|refine wx4 ?_;intro w|refine wx5 ?_;intro w v);clear hk hS a;intro hS a hk)|refine wx0 ?_|fail))
    exact done2R hk rfl (.str hS (hT := aT rfl) (hs := zT rfl)) (.tmp rfl) (h := ⟨_, rfl, hret (.cons atx sbx) hS⟩)
   ·(repeat' (first|((first|refine wx1 ?_|refine wx2 ?_ ?_<;>intro hp|refine s_end hk ?_)<;>(clear hk a;intro a hk))|((first|refine wx3 ?_;intro w b|refine wx4 ?_;intro w|refine wx5 ?_;intro w v);clear hk hS a;intro hS a hk)|refine wx0 ?_|fail))
    rename Nat => b14
    refine sg hk (g_callO hk (hf := by kernel_rfl) (hc := rname_any name hnl _) (h := ?_));clear hk a;rintro _ w ⟨rfl, hS1⟩ a hk;replace hS := hS.call0 hS1;clear hS1
    cases hnm : nameS name with
    | false =>
     have ho : ownP D id 2 name = 2 := by unfold ownP;rw [hn];simp only;rw [if_neg h0, if_neg (show ¬ (n.kind ≠ 2) from fun h => h hkd), if_pos (by first | exact ⟨rfl, hnm⟩ | exact ⟨trivial, hnm⟩)]
     rw [setP_no (kind := 3) (show ownP D id (kndC 3) name ≠ 0 by show ownP D id 2 name ≠ 0;omega), show ownP D id (kndC 3) name = 2 from ho]
     rw [hnm] at hk
     (repeat' (first|((first|refine wx1 ?_|refine wx2 ?_ ?_<;>intro hp|refine s_end hk ?_)<;>(clear hk a;intro a hk))|((first|refine wx3 ?_;intro w b|refine wx4 ?_;intro w|refine wx5 ?_;intro w v);clear hk hS a;intro hS a hk)|refine wx0 ?_|fail))
     exact done2R hk rfl (.str hS (hT := aT rfl) (hs := zT rfl)) (.tmp rfl) (h := ⟨_, rfl, hret (.cons atx sbx) hS⟩)
    | true =>
     have ho : ownP D id (kndC 3) name = 0 := by show ownP D id 2 name = 0;exact (by unfold ownP;rw [hn];simp only;rw [if_neg h0, if_neg (show ¬ (n.kind ≠ 2) from fun h => h hkd), if_neg (fun h => by rw [hnm] at h;cases h.2)])
     rw [hnm] at hk
     (repeat' (first|((first|refine wx1 ?_|refine wx2 ?_ ?_<;>intro hp|refine s_end hk ?_)<;>(clear hk a;intro a hk))|((first|refine wx3 ?_;intro w b|refine wx4 ?_;intro w|refine wx5 ?_;intro w v);clear hk hS a;intro hS a hk)|refine wx0 ?_|fail))
     refine sg hk (g_bs0 PrS hS ?_ (hT := eT rfl) (hE := zT rfl));clear hk hS a;intro w v79 hS a hk
     (repeat' (first|((first|refine wx1 ?_|refine wx2 ?_ ?_<;>intro hp|refine s_end hk ?_)<;>(clear hk a;intro a hk))|((first|refine wx3 ?_;intro w b|refine wx4 ?_;intro w|refine wx5 ?_;intro w v);clear hk hS a;intro hS a hk)|refine wx0 ?_|fail))
     have hv2 : SlT n.att (.slice a6 n.att.length c6) w := (four5 (fnd_at (hS.rdr (D := D) (H := H) (ao := ao) (c := c) atx) hn hxn)).2.1
     (repeat' (first|((first|refine wx1 ?_|refine wx2 ?_ ?_<;>intro hp|refine s_end hk ?_)<;>(clear hk a;intro a hk))|((first|refine wx3 ?_;intro w b|refine wx4 ?_;intro w|refine wx5 ?_;intro w v);clear hk hS a;intro hS a hk)|refine wx0 ?_|fail))
     clear hv2
     replace hk := Kn.kp [3, 6, 12, 14, 16, 81, 82, 83] hk
     refine wp_for n.att.length (fun i v => [(16, v), (83, .int .i64 (i : Int))]) (fun i v => OwT 102 ((n.att.take i).filter (fun x => !decide (x.1 = name))) v :: pts b14 [.int .i64 n.id, .int .i64 n.kind, .string n.tag, .string n.text, .slice a5 n.cls.length c5, .slice a6 n.att.length c6, .slice a7 n.sty.length c7, .int .i64 n.par, .slice a8 n.kids.length c8] 73 :: pts b6 [.int .i64 D.most, .int .i64 D.next, .slice ao H.length c] 28 :: pts b12 [.int .i64 0, .int .i64 0, .slice none 0 0] 28 :: rdH (Rd5R D H ao c) :: L) (fun _ _ => True) v79 hk skx (hS.sub (.cons atx (.cons atx (.cons atx (.cons atx (.cons atx sbx)))))) trivial ?_
     clear hk hS a
     rintro i vo a w hi hk hS -
     have hfl := List.length_filter_le (fun x => !decide (x.1 = name)) (n.att.take i)
     rw [List.length_take] at hfl
     have hv2 : SlT n.att (.slice a6 n.att.length c6) w := (four5 (fnd_at (hS.rdr (D := D) (H := H) (ao := ao) (c := c) atx) hn hxn)).2.1
     by_cases hil : i < n.att.length
     ·obtain ⟨⟨xn, xv⟩, hx⟩ : ∃ x, n.att[i]? = some x := ⟨_, List.getElem?_eq_getElem hil⟩
      have hst := filt5 (p := fun x => !decide (x.1 = name)) hx
      by_cases he : xn = name
      ·rw [if_neg (by simp [he])] at hst
       (repeat' (first|((first|refine wx1 ?_|refine wx2 ?_ ?_<;>intro hp|refine s_end hk ?_)<;>(clear hk a;intro a hk))|((first|refine wx3 ?_;intro w b|refine wx4 ?_;intro w|refine wx5 ?_;intro w v);clear hk hS a;intro hS a hk)|refine wx0 ?_|fail))
       rw [← hst] at hS
       exact ⟨hil, _, hk.sd, hS.sub (.cons atx (.cons atx (.cons atx (.cons atx (.cons atx sbx))))), trivial⟩
      ·rw [if_pos (by simp [he])] at hst
       (repeat' (first|((first|refine wx1 ?_|refine wx2 ?_ ?_<;>intro hp|refine s_end hk ?_)<;>(clear hk a;intro a hk))|((first|refine wx3 ?_;intro w b|refine wx4 ?_;intro w|refine wx5 ?_;intro w v);clear hk hS a;intro hS a hk)|refine wx0 ?_|fail))
       refine sg hk (g_bsT (xs := [((xn, xv) : PrS)]) (m := 0) hk hS ?_ (hT := eT rfl) (hE := zT rfl) (hz := oT rfl));clear hk hS a;intro w v hS a hk;refine sg hk (g_appD hk hS ?_ (hT := eT rfl) (hTx := eT rfl) (hE := zT rfl) (hz := oT rfl) (hzs := rfl) (hby := bT rfl) (hbytes := (by simp only [List.length_cons, List.length_nil];omega)) (h63 := (by simp only [List.length_cons, List.length_nil, maxLen];omega)));clear hk hS a;intro w v hS a hk
       (repeat' (first|((first|refine wx1 ?_|refine wx2 ?_ ?_<;>intro hp|refine s_end hk ?_)<;>(clear hk a;intro a hk))|((first|refine wx3 ?_;intro w b|refine wx4 ?_;intro w|refine wx5 ?_;intro w v);clear hk hS a;intro hS a hk)|refine wx0 ?_|fail))
       rw [← hst] at hS
       exact ⟨hil, _, hk.sd, hS.sub (.cons atx (.cons atx (.cons atx (.cons atx (.cons atx sbx))))), trivial⟩
     ·have hii : i = n.att.length := by omega
      subst hii
      rw [List.take_length] at hS hfl
      obtain ⟨aovo, cvo, hshp, _⟩ := (OwT.rd (hS.rd (A := OwT 102 _ vo) atx)).shape;subst hshp
      cases hf : (lastF nmS n.att name).isSome with
      | false =>
       rw [setP_non (kind := 3) hn ho (by simp [chgP, hf])]
       have hlen2 : (n.att.filter (fun x => !decide (x.1 = name))).length = n.att.length := by rw [att_no hf]
       (repeat' (first|((first|refine wx1 ?_|refine wx2 ?_ ?_<;>intro hp|refine s_end hk ?_)<;>(clear hk a;intro a hk))|((first|refine wx3 ?_;intro w b|refine wx4 ?_;intro w|refine wx5 ?_;intro w v);clear hk hS a;intro hS a hk)|refine wx0 ?_|fail))
       exact done2R hk rfl (.str hS (hT := aT rfl) (hs := zT rfl)) (.tmp rfl) (h := ⟨_, rfl, hret (.cons atx sbx) hS⟩)
      | true =>
       have hlen2 := att_yes hf
       rw [setP_some (kind := 3) (n' := { n with att := n.att.filter (fun x => !decide (x.1 = name)) }) hn ho (by simp [chgP, hf])]
       clear hv2
       obtain ⟨aovk, cvk, rfl, rfl⟩ : ∃ x y, x = aovo ∧ y = cvo := ⟨_, _, rfl, rfl⟩
       (repeat' (first|((first|refine wx1 ?_|refine wx2 ?_ ?_<;>intro hp|refine s_end hk ?_)<;>(clear hk a;intro a hk))|((first|refine wx3 ?_;intro w b|refine wx4 ?_;intro w|refine wx5 ?_;intro w v);clear hk hS a;intro hS a hk)|refine wx0 ?_|fail))
       have hv2 : SlT n.att (.slice a6 n.att.length c6) w := (four5 (fnd_at (hS.rdr (D := D) (H := H) (ao := ao) (c := c) atx) hn hxn)).2.1
       (repeat' (first|((first|refine wx1 ?_|refine wx2 ?_ ?_<;>intro hp|refine s_end hk ?_)<;>(clear hk a;intro a hk))|((first|refine wx3 ?_;intro w b|refine wx4 ?_;intro w|refine wx5 ?_;intro w v);clear hk hS a;intro hS a hk)|refine wx0 ?_|fail))
       clear hv2
       (repeat' (first|((first|refine wx1 ?_|refine wx2 ?_ ?_<;>intro hp|refine s_end hk ?_)<;>(clear hk a;intro a hk))|((first|refine wx3 ?_;intro w b|refine wx4 ?_;intro w|refine wx5 ?_;intro w v);clear hk hS a;intro hS a hk)|refine wx0 ?_|fail))
       refine sg hk (g_callO hk (hf := by kernel_rfl) (hc := rputO_any D.most D.next H _ (n.id, n.kind, n.tag, n.text, ⟨a5, n.cls.length, c5⟩, ⟨aovk, (n.att.filter (fun x => !decide (x.1 = name))).length, cvk⟩, ⟨a7, n.sty.length, c7⟩, n.par, ⟨a8, n.kids.length, c8⟩) _ (hS.rdr (D := D) (H := H) (ao := ao) (c := c) atx).1 (by omega)) (h := ?_));clear hk a;rintro vp w hS1 a hk;replace hS := hS.call hS1;clear hS1
       rw [List.cons_append, List.nil_append] at hS
       obtain ⟨ax, cx, rfl, hS1⟩ := hS.putO (r := vp) atx
       clear hS
       have hS := hS1
       clear hS1
       (repeat' (first|((first|refine wx1 ?_|refine wx2 ?_ ?_<;>intro hp|refine s_end hk ?_)<;>(clear hk a;intro a hk))|((first|refine wx3 ?_;intro w b|refine wx4 ?_;intro w|refine wx5 ?_;intro w v);clear hk hS a;intro hS a hk)|refine wx0 ?_|fail))
       refine done2R hk rfl (.str hS (hT := aT rfl) (hs := zT rfl)) (.tmp rfl) (h := ⟨_, rfl, ?_⟩)
       refine refO.of (L := L) (D := { D with l := putP D.l { n with att := n.att.filter (fun x => !decide (x.1 = name)) } }) (H := putR H (n.id, n.kind, n.tag, n.text, ⟨a5, n.cls.length, c5⟩, ⟨aovk, (n.att.filter (fun x => !decide (x.1 = name))).length, cvk⟩, ⟨a7, n.sty.length, c7⟩, n.par, ⟨a8, n.kids.length, c8⟩)) (ao := ax) (c := cx) (rdH.of (L := L) (L1 := [OwT 73 (putR H (n.id, n.kind, n.tag, n.text, ⟨a5, n.cls.length, c5⟩, ⟨aovk, (n.att.filter (fun x => !decide (x.1 = name))).length, cvk⟩, ⟨a7, n.sty.length, c7⟩, n.par, ⟨a8, n.kids.length, c8⟩)) (.slice ax (putR H (n.id, n.kind, n.tag, n.text, ⟨a5, n.cls.length, c5⟩, ⟨aovk, (n.att.filter (fun x => !decide (x.1 = name))).length, cvk⟩, ⟨a7, n.sty.length, c7⟩, n.par, ⟨a8, n.kids.length, c8⟩)).length cx), OwT 102 (n.att.filter (fun x => !decide (x.1 = name))) (.slice aovk (n.att.filter (fun x => !decide (x.1 = name))).length cvk), rdH (Rd5R D H ao c)]) (hS.sub (.cons atx (.cons atx (.cons atx sbx)))) fun g hg => ?_)
       have g1 := OwT.rd (hg (OwT 73 (putR H (n.id, n.kind, n.tag, n.text, ⟨a5, n.cls.length, c5⟩, ⟨aovk, (n.att.filter (fun x => !decide (x.1 = name))).length, cvk⟩, ⟨a7, n.sty.length, c7⟩, n.par, ⟨a8, n.kids.length, c8⟩)) (.slice ax (putR H (n.id, n.kind, n.tag, n.text, ⟨a5, n.cls.length, c5⟩, ⟨aovk, (n.att.filter (fun x => !decide (x.1 = name))).length, cvk⟩, ⟨a7, n.sty.length, c7⟩, n.par, ⟨a8, n.kids.length, c8⟩)).length cx)) (by simp))
       have g2 := OwT.rd (hg (OwT 102 (n.att.filter (fun x => !decide (x.1 = name))) (.slice aovk (n.att.filter (fun x => !decide (x.1 = name))).length cvk)) (by simp))
       have g3 := rdH.rd (Rd5R.stays D H ao c) (hg (rdH (Rd5R D H ao c)) (by simp))
       obtain ⟨s1, s2, s3, s4⟩ := four5 (fnd_at g3 hn hxn)
       exact ⟨g1, RowsR.put (n := { n with att := n.att.filter (fun x => !decide (x.1 = name)) }) g3.2 ⟨a5, c5, aovk, cvk, a7, c7, a8, c8, rfl, s1, g2, s3, s4⟩⟩
end
end Go.Proofs.YtgklceoodpocaaaGreatDoor
