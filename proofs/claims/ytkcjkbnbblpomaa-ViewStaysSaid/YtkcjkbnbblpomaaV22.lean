import Derived.Test.YtkcjkbnbblpomaaV21
namespace Go.Proofs.Ytkcjkbnbblpomaa
open Go.RowKit
set_option maxRecDepth 100000
attribute [local irreducible] Go.Code.wpIn Go.wpListIn Go.Calls Gives Go.Exit.then Go.Exit.inBlock Done ObxE

theorem satN_any (x : Int) (h0 : 0 ≤ x) (h1 : x ≤ 2147483647) (w0 : World) : Calls Try.prog 68 #[.int .i64 x] w0 (Ret fun v w => v = .int .i64 x ∧ St w0 [] w) := by
  refine enter Try.func68 rfl Try.ntmps68 rfl (fun a hk => ?_); have hS := St.refl w0
  (repeat' (first | (show wpListIn _ _ _ _ _ (_ :: _) _ _; first | (refine wx1 ?_; clear hk a; intro a hk) | (refine wx2 ?_ ?_ <;> (intro hp; clear hk a; intro a hk)) | (refine wx3 ?_; clear hk hS a; intro w b hS a hk) | (refine wx4 ?_; clear hk hS a; intro w hS a hk) | (refine wx5 ?_; clear hk hS a; intro w v hS a hk) | fail) | refine wx0 ?_ | (refine s_end hk ?_; clear hk a; intro a hk) | fail))
  exact done1 hk (h := ⟨by rw [show max (-2147483648) (min x 2147483647) = x by omega], hS.nil⟩)
theorem addN_any (x y : Nat) (h1 : x + y ≤ 2147483647) (w0 : World) : Calls Try.prog 56 #[.int .i64 (x : Int), .int .i64 (y : Int)] w0 (Ret fun v w => v = .int .i64 ((x + y : Nat) : Int) ∧ St w0 [] w) := by
  refine enter Try.func56 rfl Try.ntmps56 rfl (fun a hk => ?_); have hS := St.refl w0
  (repeat' (first | (show wpListIn _ _ _ _ _ (_ :: _) _ _; first | (refine wx1 ?_; clear hk a; intro a hk) | (refine wx2 ?_ ?_ <;> (intro hp; clear hk a; intro a hk)) | (refine wx3 ?_; clear hk hS a; intro w b hS a hk) | (refine wx4 ?_; clear hk hS a; intro w hS a hk) | (refine wx5 ?_; clear hk hS a; intro w v hS a hk) | fail) | refine wx0 ?_ | (refine s_end hk ?_; clear hk a; intro a hk) | fail))
  refine sg hk (g_callO hk (hf := by kernel_rfl) (hc := satN_any x (by omega) (by omega) _) (h := ?_)); clear hk a; rintro _ w ⟨rfl, hS1⟩ a hk; replace hS := hS.call0 hS1; clear hS1
  (repeat' (first | (show wpListIn _ _ _ _ _ (_ :: _) _ _; first | (refine wx1 ?_; clear hk a; intro a hk) | (refine wx2 ?_ ?_ <;> (intro hp; clear hk a; intro a hk)) | (refine wx3 ?_; clear hk hS a; intro w b hS a hk) | (refine wx4 ?_; clear hk hS a; intro w hS a hk) | (refine wx5 ?_; clear hk hS a; intro w v hS a hk) | fail) | refine wx0 ?_ | (refine s_end hk ?_; clear hk a; intro a hk) | fail))
  refine sg hk (g_callO hk (hf := by kernel_rfl) (hc := satN_any y (by omega) (by omega) _) (h := ?_)); clear hk a; rintro _ w ⟨rfl, hS1⟩ a hk; replace hS := hS.call0 hS1; clear hS1
  (repeat' (first | (show wpListIn _ _ _ _ _ (_ :: _) _ _; first | (refine wx1 ?_; clear hk a; intro a hk) | (refine wx2 ?_ ?_ <;> (intro hp; clear hk a; intro a hk)) | (refine wx3 ?_; clear hk hS a; intro w b hS a hk) | (refine wx4 ?_; clear hk hS a; intro w hS a hk) | (refine wx5 ?_; clear hk hS a; intro w v hS a hk) | fail) | refine wx0 ?_ | (refine s_end hk ?_; clear hk a; intro a hk) | fail))
  refine sg hk (g_callO hk (hf := by kernel_rfl) (hc := satN_any ((x : Int) + y) (by omega) (by omega) _) (h := ?_)); clear hk a; rintro _ w ⟨rfl, hS1⟩ a hk; replace hS := hS.call0 hS1; clear hS1
  (repeat' (first | (show wpListIn _ _ _ _ _ (_ :: _) _ _; first | (refine wx1 ?_; clear hk a; intro a hk) | (refine wx2 ?_ ?_ <;> (intro hp; clear hk a; intro a hk)) | (refine wx3 ?_; clear hk hS a; intro w b hS a hk) | (refine wx4 ?_; clear hk hS a; intro w hS a hk) | (refine wx5 ?_; clear hk hS a; intro w v hS a hk) | fail) | refine wx0 ?_ | (refine s_end hk ?_; clear hk a; intro a hk) | fail))
  exact done1 hk (h := ⟨by rw [Int.natCast_add], hS.nil⟩)
def natI (l : List Nat) : List Int := l.map (fun n : Nat => (n : Int))
theorem natI_get {l : List Nat} {i x : Nat} (h : l[i]? = some x) : (natI l)[i]? = some (x : Int) := by simp [natI, h]
theorem sumN_take {l : List Nat} {i : Nat} : sumN (l.take i) ≤ sumN l := by
  have : ∀ (r l : List Nat), sumN l ≤ sumN (l ++ r) := by
    intro r
    induction r with
    | nil => intro l; simp
    | cons x r ih =>
      intro l
      have := ih (l ++ [x])
      rw [sumN_snoc, List.append_assoc, List.singleton_append] at this
      omega
  have := this (l.drop i) (l.take i)
  rwa [List.take_append_drop] at this
theorem sum_any (l : List Nat) (v : Value) (w0 : World) (hv : SlT (natI l) v w0) (hl : sumN l ≤ 1000000) : Calls Try.prog 40 #[v] w0 (Ret fun v w => v = .int .i64 (sumN l : Int) ∧ St w0 [] w) := by
  have hlen : (natI l).length = l.length := by simp [natI]
  have hm : (natI l).length ≤ maxLen := hv.len_le
  rw [hlen] at hm
  simp only [maxLen] at hm
  refine enter Try.func40 rfl Try.ntmps40 rfl (fun a hk => ?_); have hS := St.refl w0
  (repeat' (first | (show wpListIn _ _ _ _ _ (_ :: _) _ _; first | (refine wx1 ?_; clear hk a; intro a hk) | (refine wx2 ?_ ?_ <;> (intro hp; clear hk a; intro a hk)) | (refine wx3 ?_; clear hk hS a; intro w b hS a hk) | (refine wx4 ?_; clear hk hS a; intro w hS a hk) | (refine wx5 ?_; clear hk hS a; intro w v hS a hk) | fail) | refine wx0 ?_ | (refine s_end hk ?_; clear hk a; intro a hk) | fail))
  replace hk := Kn.kp [3, 6, 7, 8] hk
  refine wp_for l.length (fun i _ => [(3, .int .i64 (sumN (l.take i) : Int)), (8, .int .i64 (i : Int))]) (fun _ _ => []) (fun _ _ => True) () hk (by repeat (first | exact trivial | refine ⟨rfl, ?_⟩)) hS.sb trivial ?_
  clear hk hS a
  rintro i - a w hi hk hS -
  by_cases hil : i < l.length
  · obtain ⟨x, hx⟩ : ∃ x, l[i]? = some x := ⟨_, List.getElem?_eq_getElem hil⟩
    have hxI := natI_get hx
    have hst : sumN (l.take (i + 1)) = sumN (l.take i) + x := by rw [take_snoc hx, sumN_snoc]
    have hb := sumN_take (l := l) (i := i + 1)
    (repeat' (first | (show wpListIn _ _ _ _ _ (_ :: _) _ _; first | (refine wx1 ?_; clear hk a; intro a hk) | (refine wx2 ?_ ?_ <;> (intro hp; clear hk a; intro a hk)) | (refine wx3 ?_; clear hk hS a; intro w b hS a hk) | (refine wx4 ?_; clear hk hS a; intro w hS a hk) | (refine wx5 ?_; clear hk hS a; intro w v hS a hk) | fail) | refine wx0 ?_ | (refine s_end hk ?_; clear hk a; intro a hk) | fail))
    refine sg hk (g_callO hk (hf := by kernel_rfl) (hc := addN_any (sumN (l.take i)) x (by omega) _) (h := ?_)); clear hk a; rintro _ w ⟨rfl, hS1⟩ a hk; replace hS := hS.call0 hS1; clear hS1
    (repeat' (first | (show wpListIn _ _ _ _ _ (_ :: _) _ _; first | (refine wx1 ?_; clear hk a; intro a hk) | (refine wx2 ?_ ?_ <;> (intro hp; clear hk a; intro a hk)) | (refine wx3 ?_; clear hk hS a; intro w b hS a hk) | (refine wx4 ?_; clear hk hS a; intro w hS a hk) | (refine wx5 ?_; clear hk hS a; intro w v hS a hk) | fail) | refine wx0 ?_ | (refine s_end hk ?_; clear hk a; intro a hk) | fail))
    rw [← hst] at hk
    exact ⟨hil, (), hk.sd, hS.sb, trivial⟩
  · have : i = l.length := by omega
    subst this
    rw [List.take_length] at hk
    (repeat' (first | (show wpListIn _ _ _ _ _ (_ :: _) _ _; first | (refine wx1 ?_; clear hk a; intro a hk) | (refine wx2 ?_ ?_ <;> (intro hp; clear hk a; intro a hk)) | (refine wx3 ?_; clear hk hS a; intro w b hS a hk) | (refine wx4 ?_; clear hk hS a; intro w hS a hk) | (refine wx5 ?_; clear hk hS a; intro w v hS a hk) | fail) | refine wx0 ?_ | (refine s_end hk ?_; clear hk a; intro a hk) | fail))
    exact done1 hk (h := ⟨rfl, hS.nil⟩)

theorem max_any (x : Int) (l : List Int) (v : Value) (w0 : World) (hv : SlT (x :: l) v w0) (hl : l.length ≤ 100000) : Calls Try.prog 42 #[v] w0 (Ret fun v w => v = .int .i64 (l.foldl max x) ∧ St w0 [] w) := by
  have hlen : (x :: l).length = l.length + 1 := rfl
  have hx0 : (x :: l)[0]? = some x := rfl
  refine enter Try.func42 rfl Try.ntmps42 rfl (fun a hk => ?_); have hS := St.refl w0
  (repeat' (first | (show wpListIn _ _ _ _ _ (_ :: _) _ _; first | (refine wx1 ?_; clear hk a; intro a hk) | (refine wx2 ?_ ?_ <;> (intro hp; clear hk a; intro a hk)) | (refine wx3 ?_; clear hk hS a; intro w b hS a hk) | (refine wx4 ?_; clear hk hS a; intro w hS a hk) | (refine wx5 ?_; clear hk hS a; intro w v hS a hk) | fail) | refine wx0 ?_ | (refine s_end hk ?_; clear hk a; intro a hk) | fail))
  replace hk := Kn.kp [0, 3, 4] hk
  refine wp_for l.length (fun i _ => [(3, .int .i64 ((l.take i).foldl max x)), (4, .int .i64 ((i + 1 : Nat) : Int))]) (fun _ _ => []) (fun _ _ => True) () hk (by repeat (first | exact trivial | refine ⟨rfl, ?_⟩)) hS.sb trivial ?_
  clear hk hS a
  rintro i - a w hi hk hS -
  by_cases hil : i < l.length
  · obtain ⟨y, hy⟩ : ∃ y, l[i]? = some y := ⟨_, List.getElem?_eq_getElem hil⟩
    have hy1 : (x :: l)[i + 1]? = some y := by simpa using hy
    have hst : (l.take (i + 1)).foldl max x = max ((l.take i).foldl max x) y := by rw [take_snoc hy, List.foldl_append]; rfl
    (repeat' (first | (show wpListIn _ _ _ _ _ (_ :: _) _ _; first | (refine wx1 ?_; clear hk a; intro a hk) | (refine wx2 ?_ ?_ <;> (intro hp; clear hk a; intro a hk)) | (refine wx3 ?_; clear hk hS a; intro w b hS a hk) | (refine wx4 ?_; clear hk hS a; intro w hS a hk) | (refine wx5 ?_; clear hk hS a; intro w v hS a hk) | fail) | refine wx0 ?_ | (refine s_end hk ?_; clear hk a; intro a hk) | fail))
    rw [← hst] at hk
    exact ⟨hil, (), hk.sd, hS.sb, trivial⟩
  · have : i = l.length := by omega
    subst this
    rw [List.take_length] at hk
    (repeat' (first | (show wpListIn _ _ _ _ _ (_ :: _) _ _; first | (refine wx1 ?_; clear hk a; intro a hk) | (refine wx2 ?_ ?_ <;> (intro hp; clear hk a; intro a hk)) | (refine wx3 ?_; clear hk hS a; intro w b hS a hk) | (refine wx4 ?_; clear hk hS a; intro w hS a hk) | (refine wx5 ?_; clear hk hS a; intro w v hS a hk) | fail) | refine wx0 ?_ | (refine s_end hk ?_; clear hk a; intro a hk) | fail))
    exact done1 hk (h := ⟨rfl, hS.nil⟩)

set_option maxHeartbeats 4000000 in
theorem fold_any (f : FuncId) (hf : callable Try.prog f = true) (val : Tree → Int) (P : Tree → Prop) (hP : ∀ t, P t → Fits t ∧ ∀ u ∈ t.kids, P u)
    (hc : ∀ (t : Tree) (h : NdH) (v : Value) (B : Bs) (L : List HP) (w : World), P t → TrR w t h → St B (OwT 3 (t.kids.map val) v :: L) w → Calls Try.prog f #[ndV h, v] w (Ret fun r w' => r = .int .i64 (val t) ∧ St B L w')) :
    ∀ (n : Nat) (t : Tree) (h : NdH) (w0 : World), SizeOf.sizeOf t < n → P t → TrR w0 t h → Calls Try.prog 38 #[ndV h, .func (.func f) #[] #[]] w0 (Ret fun v w => v = .int .i64 (val t) ∧ St w0 [] w)
  | 0, _, _, _, hn, _, _ => by omega
  | n + 1, t, h, w0, hn, hp, hr => by
    have ih := fold_any f hf val P hP hc n
    obtain ⟨hfits, hkids⟩ := hP t hp
    obtain ⟨k, tag, key, text, cl, al, sl, e, lv, m, d, p, q, kids, a1, m1, a2, m2, a3, m3, a4, m4, H, rfl, rfl, c1, c2, c3, c4, hF⟩ := hr.split
    obtain ⟨l1, l2, l3, l4, l5⟩ := hfits
    have hHk : H.length = kids.length := hF.1
    show Calls Try.prog 38 #[.agg #[.int .i64 k, .string tag, .string key, .string text, .slice a1 cl.length m1, .slice a2 al.length m2, .slice a3 sl.length m3, .int .i64 e, .int .i64 lv, .int .i64 m, .int .i64 d, .bool p, .bool q, .slice a4 H.length m4], .func (.func f) #[] #[]] w0 _
    have c4' := c4
    refine enter Try.func38 rfl Try.ntmps38 rfl (fun a hk => ?_); have hS := St.refl w0
    (repeat' (first | (show wpListIn _ _ _ _ _ (_ :: _) _ _; first | (refine wx1 ?_; clear hk a; intro a hk) | (refine wx2 ?_ ?_ <;> (intro hp; clear hk a; intro a hk)) | (refine wx3 ?_; clear hk hS a; intro w b hS a hk) | (refine wx4 ?_; clear hk hS a; intro w hS a hk) | (refine wx5 ?_; clear hk hS a; intro w v hS a hk) | fail) | refine wx0 ?_ | (refine s_end hk ?_; clear hk a; intro a hk) | fail))
    rename Nat => b1
    replace hS := hS.nilT 3 Int
    replace hk := Kn.kp [1, 2, 5, 9, 10, 11] hk
    refine wp_for H.length (fun i v => [(5, v), (11, .int .i64 (i : Int))]) (fun i v => [OwT 3 ((kids.take i).map val) v, pts b1 [.int .i64 k, .string tag, .string key, .string text, .slice a1 cl.length m1, .slice a2 al.length m2, .slice a3 sl.length m3, .int .i64 e, .int .i64 lv, .int .i64 m, .int .i64 d, .bool p, .bool q, .slice a4 H.length m4] 41]) (fun _ _ => True) (.slice none 0 0) hk (by repeat (first | exact trivial | refine ⟨rfl, ?_⟩)) hS.sb trivial ?_
    clear hk hS a
    rintro i vo a w hi hk hS -
    have hml : ((kids.take i).map val).length ≤ 1000 := by rw [List.length_map, List.length_take]; omega
    by_cases hil : i < H.length
    · obtain ⟨tk, htk⟩ : ∃ t, kids[i]? = some t := ⟨_, List.getElem?_eq_getElem (by omega)⟩
      obtain ⟨hd0, hx⟩ : ∃ x, H[i]? = some x := ⟨_, List.getElem?_eq_getElem hil⟩
      have hTr := hF.2 i tk hd0 htk hx
      have hpk := hkids tk (List.mem_of_getElem? htk)
      have hlt : SizeOf.sizeOf tk < n := by have := kid_lt (k := k) (tag := tag) (key := key) (text := text) (cl := cl) (at_ := al) (st := sl) (o := (e, lv, m, d, p, q)) (List.mem_of_getElem? htk); omega
      have hst : (kids.take (i + 1)).map val = (kids.take i).map val ++ [val tk] := by rw [take_snoc htk, List.map_append, List.map_singleton]
      obtain ⟨k0, tag0, key0, text0, ⟨x1, x2, x3⟩, ⟨y1, y2, y3⟩, ⟨z1, z2, z3⟩, ⟨e0, lv0, m0, d0, p0, q0⟩, ⟨u1, u2, u3⟩⟩ := hd0
      have hv1 := hS.rdT c4
      (repeat' (first | (show wpListIn _ _ _ _ _ (_ :: _) _ _; first | (refine wx1 ?_; clear hk a; intro a hk) | (refine wx2 ?_ ?_ <;> (intro hp; clear hk a; intro a hk)) | (refine wx3 ?_; clear hk hS a; intro w b hS a hk) | (refine wx4 ?_; clear hk hS a; intro w hS a hk) | (refine wx5 ?_; clear hk hS a; intro w v hS a hk) | fail) | refine wx0 ?_ | (refine s_end hk ?_; clear hk a; intro a hk) | fail))
      refine sg hk (g_callO hk (hf := by kernel_rfl) (hc := ih tk (k0, tag0, key0, text0, ⟨x1, x2, x3⟩, ⟨y1, y2, y3⟩, ⟨z1, z2, z3⟩, (e0, lv0, m0, d0, p0, q0), ⟨u1, u2, u3⟩) _ hlt hpk (hS.rdTr hTr)) (h := ?_)); clear hk a; rintro _ w ⟨rfl, hS1⟩ a hk; replace hS := hS.call0 hS1; clear hS1
      (repeat' (first | (show wpListIn _ _ _ _ _ (_ :: _) _ _; first | (refine wx1 ?_; clear hk a; intro a hk) | (refine wx2 ?_ ?_ <;> (intro hp; clear hk a; intro a hk)) | (refine wx3 ?_; clear hk hS a; intro w b hS a hk) | (refine wx4 ?_; clear hk hS a; intro w hS a hk) | (refine wx5 ?_; clear hk hS a; intro w v hS a hk) | fail) | refine wx0 ?_ | (refine s_end hk ?_; clear hk a; intro a hk) | fail))
      rw [← hst] at hS
      exact ⟨hil, _, hk.sd, hS.sb, trivial⟩
    · have hii : i = kids.length := by omega
      subst hii
      rw [List.take_length] at hS
      (repeat' (first | (show wpListIn _ _ _ _ _ (_ :: _) _ _; first | (refine wx1 ?_; clear hk a; intro a hk) | (refine wx2 ?_ ?_ <;> (intro hp; clear hk a; intro a hk)) | (refine wx3 ?_; clear hk hS a; intro w b hS a hk) | (refine wx4 ?_; clear hk hS a; intro w hS a hk) | (refine wx5 ?_; clear hk hS a; intro w v hS a hk) | fail) | refine wx0 ?_ | (refine s_end hk ?_; clear hk a; intro a hk) | fail))
      have hT : TrR w (.mk k tag key text cl al sl (e, lv, m, d, p, q) kids) (k, tag, key, text, ⟨a1, cl.length, m1⟩, ⟨a2, al.length, m2⟩, ⟨a3, sl.length, m3⟩, (e, lv, m, d, p, q), ⟨a4, H.length, m4⟩) := hS.rdTr hr
      refine sg hk (g_callvO (first := []) (cap := []) hk (hf := hf) (hc := hc _ _ _ _ [] _ hp hT (hS.sub (by (repeat (first | exact Sub.nil | exact Sub.refl | refine Sub.cons (by (repeat (first | exact At.here | apply At.there))) ?_))))) (h := ?_)); clear hk hS a; rintro _ w ⟨rfl, hS⟩ a hk
      (repeat' (first | (show wpListIn _ _ _ _ _ (_ :: _) _ _; first | (refine wx1 ?_; clear hk a; intro a hk) | (refine wx2 ?_ ?_ <;> (intro hp; clear hk a; intro a hk)) | (refine wx3 ?_; clear hk hS a; intro w b hS a hk) | (refine wx4 ?_; clear hk hS a; intro w hS a hk) | (refine wx5 ?_; clear hk hS a; intro w v hS a hk) | fail) | refine wx0 ?_ | (refine s_end hk ?_; clear hk a; intro a hk) | fail))
      exact done1 hk (h := ⟨rfl, hS⟩)
end Go.Proofs.Ytkcjkbnbblpomaa
namespace Go.Proofs.Ytkcjkbnbblpomaa
open Go.RowKit
set_option maxRecDepth 100000
attribute [local irreducible] Go.Code.wpIn Go.wpListIn Go.Calls Gives Go.Exit.then Go.Exit.inBlock Done ObxE

def P7 (t : Tree) : Prop := Fits t ∧ cnt t ≤ 1000
theorem P7.kids (t : Tree) (h : P7 t) : Fits t ∧ ∀ u ∈ t.kids, P7 u := by
  obtain ⟨h1, h2⟩ := h
  refine ⟨h1, fun u hu => ?_⟩
  cases h1 with
  | mk _ _ _ _ h5 =>
    refine ⟨h5 u hu, ?_⟩
    have := cntL_mem hu
    simp only [Tree.kids] at this
    simp only [cnt] at h2
    omega
theorem max0_any (xs : List Int) (h : (0 : Int) ∈ xs) (v : Value) (w0 : World) (hv : SlT xs v w0) (hl : xs.length ≤ 10000) : Calls Try.prog 42 #[v] w0 (Ret fun v w => v = .int .i64 (mxI xs) ∧ St w0 [] w) := by
  cases xs with
  | nil => cases h
  | cons x l =>
    rw [← mx_zero h]
    exact max_any x l v w0 hv (by simp only [List.length_cons] at hl; omega)
theorem cntL_take (ts : List Tree) (i : Nat) : cntL (ts.take i) ≤ cntL ts := by
  have := cntL_app (ts.take i) (ts.drop i)
  rw [List.take_append_drop] at this
  omega

theorem size1_any (t : Tree) (h : NdH) (v : Value) (B : Bs) (L : List HP) (w : World) (hp : P7 t) (hr : TrR w t h) (hS : St B (OwT 3 (t.kids.map (fun t => (cnt t : Int))) v :: L) w) :
    Calls Try.prog 39 #[ndV h, v] w (Ret fun r w' => r = .int .i64 (cnt t : Int) ∧ St B L w') := by
  obtain ⟨k, tag, key, text, cl, al, sl, e, lv, m, d, p, q, kids, a1, m1, a2, m2, a3, m3, a4, m4, H, rfl, rfl, -⟩ := hr.split
  have hc := hp.2
  simp only [cnt] at hc
  rw [show Tree.kids (.mk k tag key text cl al sl (e, lv, m, d, p, q) kids) = kids from rfl, show kids.map (fun t => (cnt t : Int)) = natI (kids.map cnt) by simp [natI]] at hS
  have hsum := cntL_sum kids
  show Calls Try.prog 39 #[.agg #[.int .i64 k, .string tag, .string key, .string text, .slice a1 cl.length m1, .slice a2 al.length m2, .slice a3 sl.length m3, .int .i64 e, .int .i64 lv, .int .i64 m, .int .i64 d, .bool p, .bool q, .slice a4 H.length m4], v] w _
  refine enter Try.func39 rfl Try.ntmps39 rfl (fun a hk => ?_)
  (repeat' (first | (show wpListIn _ _ _ _ _ (_ :: _) _ _; first | (refine wx1 ?_; clear hk a; intro a hk) | (refine wx2 ?_ ?_ <;> (intro hp; clear hk a; intro a hk)) | (refine wx3 ?_; clear hk hS a; intro w b hS a hk) | (refine wx4 ?_; clear hk hS a; intro w hS a hk) | (refine wx5 ?_; clear hk hS a; intro w v hS a hk) | fail) | refine wx0 ?_ | (refine s_end hk ?_; clear hk a; intro a hk) | fail))
  refine sg hk (g_callO hk (hf := by kernel_rfl) (hc := sum_any (kids.map cnt) v _ (OwT.rd (hS.rd (A := OwT 3 (natI (kids.map cnt)) v) (by (repeat (first | exact At.here | apply At.there))))) (by omega)) (h := ?_)); clear hk a; rintro _ w ⟨rfl, hS1⟩ a hk; replace hS := hS.call0 hS1; clear hS1
  rw [hsum] at hk
  (repeat' (first | (show wpListIn _ _ _ _ _ (_ :: _) _ _; first | (refine wx1 ?_; clear hk a; intro a hk) | (refine wx2 ?_ ?_ <;> (intro hp; clear hk a; intro a hk)) | (refine wx3 ?_; clear hk hS a; intro w b hS a hk) | (refine wx4 ?_; clear hk hS a; intro w hS a hk) | (refine wx5 ?_; clear hk hS a; intro w v hS a hk) | fail) | refine wx0 ?_ | (refine s_end hk ?_; clear hk a; intro a hk) | fail))
  exact done1 hk (h := ⟨by simp only [cnt]; rw [show (1 : Int) + (cntL kids : Int) = ((cntL kids + 1 : Nat) : Int) by omega], hS.sub (Sub.under (Sub.under .refl))⟩)
theorem depth1_any (t : Tree) (h : NdH) (v : Value) (B : Bs) (L : List HP) (w : World) (hp : P7 t) (hr : TrR w t h) (hS : St B (OwT 3 (t.kids.map (fun t => (dep t : Int))) v :: L) w) :
    Calls Try.prog 41 #[ndV h, v] w (Ret fun r w' => r = .int .i64 (dep t : Int) ∧ St B L w') := by
  obtain ⟨k, tag, key, text, cl, al, sl, e, lv, m, d, p, q, kids, a1, m1, a2, m2, a3, m3, a4, m4, H, rfl, rfl, -⟩ := hr.split
  have hf := hp.1
  obtain ⟨-, -, -, l4, -⟩ := hf
  have hd := dep_le (.mk k tag key text cl al sl (e, lv, m, d, p, q) kids)
  have hc := hp.2
  have hdp : dep (.mk k tag key text cl al sl (e, lv, m, d, p, q) kids) = depL kids + 1 := by simp only [dep]
  rw [hdp] at hd ⊢
  rw [show Tree.kids (.mk k tag key text cl al sl (e, lv, m, d, p, q) kids) = kids from rfl] at hS
  have hmx := depL_mx kids
  have hml : (kids.map (fun t => (dep t : Int))).length = kids.length := List.length_map ..
  generalize kids.map (fun t => (dep t : Int)) = X at *
  have hm0 : mxI (X ++ [0]) = (depL kids : Int) := by rw [mx_app, hmx]; simp [mxI]
  show Calls Try.prog 41 #[.agg #[.int .i64 k, .string tag, .string key, .string text, .slice a1 cl.length m1, .slice a2 al.length m2, .slice a3 sl.length m3, .int .i64 e, .int .i64 lv, .int .i64 m, .int .i64 d, .bool p, .bool q, .slice a4 H.length m4], v] w _
  refine enter Try.func41 rfl Try.ntmps41 rfl (fun a hk => ?_)
  (repeat' (first | (show wpListIn _ _ _ _ _ (_ :: _) _ _; first | (refine wx1 ?_; clear hk a; intro a hk) | (refine wx2 ?_ ?_ <;> (intro hp; clear hk a; intro a hk)) | (refine wx3 ?_; clear hk hS a; intro w b hS a hk) | (refine wx4 ?_; clear hk hS a; intro w hS a hk) | (refine wx5 ?_; clear hk hS a; intro w v hS a hk) | fail) | refine wx0 ?_ | (refine s_end hk ?_; clear hk a; intro a hk) | fail))
  rename Value => vx
  refine sg hk (g_callO hk (hf := by kernel_rfl) (hc := max0_any (X ++ [0]) (by simp) vx _ (OwT.rd (hS.rd (A := OwT 3 (X ++ [0]) vx) (by (repeat (first | exact At.here | apply At.there))))) (by rw [List.length_append]; simp; omega)) (h := ?_)); clear hk a; rintro _ w ⟨rfl, hS1⟩ a hk; replace hS := hS.call0 hS1; clear hS1
  rw [hm0] at hk
  (repeat' (first | (show wpListIn _ _ _ _ _ (_ :: _) _ _; first | (refine wx1 ?_; clear hk a; intro a hk) | (refine wx2 ?_ ?_ <;> (intro hp; clear hk a; intro a hk)) | (refine wx3 ?_; clear hk hS a; intro w b hS a hk) | (refine wx4 ?_; clear hk hS a; intro w hS a hk) | (refine wx5 ?_; clear hk hS a; intro w v hS a hk) | fail) | refine wx0 ?_ | (refine s_end hk ?_; clear hk a; intro a hk) | fail))
  exact done1 hk (h := ⟨by rw [show (1 : Int) + (depL kids : Int) = ((depL kids + 1 : Nat) : Int) by omega], hS.sub (Sub.under (Sub.under .refl))⟩)
theorem long1_any (t : Tree) (h : NdH) (v : Value) (B : Bs) (L : List HP) (w : World) (hp : P7 t) (hr : TrR w t h) (hS : St B (OwT 3 (t.kids.map lng) v :: L) w) :
    Calls Try.prog 43 #[ndV h, v] w (Ret fun r w' => r = .int .i64 (lng t) ∧ St B L w') := by
  obtain ⟨k, tag, key, text, cl, al, sl, e, lv, m, d, p, q, kids, a1, m1, a2, m2, a3, m3, a4, m4, H, rfl, rfl, -⟩ := hr.split
  have hf := hp.1
  obtain ⟨-, -, -, l4, -⟩ := hf
  rw [show Tree.kids (.mk k tag key text cl al sl (e, lv, m, d, p, q) kids) = kids from rfl] at hS
  have hmx := lngL_mx kids
  have hml : (kids.map lng).length = kids.length := List.length_map ..
  generalize kids.map lng = X at *
  have hm0 : mxI (X ++ [e, lv, m, 0]) = lng (.mk k tag key text cl al sl (e, lv, m, d, p, q) kids) := by
    rw [mx_app, hmx]
    simp only [mxI, List.foldl_cons, List.foldl_nil, lng]
    omega
  rw [← hm0]
  show Calls Try.prog 43 #[.agg #[.int .i64 k, .string tag, .string key, .string text, .slice a1 cl.length m1, .slice a2 al.length m2, .slice a3 sl.length m3, .int .i64 e, .int .i64 lv, .int .i64 m, .int .i64 d, .bool p, .bool q, .slice a4 H.length m4], v] w _
  refine enter Try.func43 rfl Try.ntmps43 rfl (fun a hk => ?_)
  (repeat' (first | (show wpListIn _ _ _ _ _ (_ :: _) _ _; first | (refine wx1 ?_; clear hk a; intro a hk) | (refine wx2 ?_ ?_ <;> (intro hp; clear hk a; intro a hk)) | (refine wx3 ?_; clear hk hS a; intro w b hS a hk) | (refine wx4 ?_; clear hk hS a; intro w hS a hk) | (refine wx5 ?_; clear hk hS a; intro w v hS a hk) | fail) | refine wx0 ?_ | (refine s_end hk ?_; clear hk a; intro a hk) | fail))
  refine sg hk (g_bsT (xs := [e, lv, m, 0]) (m := 3) hk hS ?_ (hT := eT rfl) (hE := zT rfl) (hz := oT rfl)); clear hk hS a; intro w vb hS a hk
  refine sg hk (g_appD (xs := X) (ys := [e, lv, m, 0]) hk hS ?_ (hT := eT rfl) (hTx := eT rfl) (hE := zT rfl) (hz := oT rfl) (hzs := rfl) (hby := bT rfl) (hbytes := by simp only [List.length_cons, List.length_nil]; omega) (h63 := by simp only [List.length_cons, List.length_nil, maxLen]; omega)); clear hk hS a; intro w vx hS a hk
  refine sg hk (g_callO hk (hf := by kernel_rfl) (hc := max0_any (X ++ [e, lv, m, 0]) (by simp) vx _ (OwT.rd (hS.rd (A := OwT 3 (X ++ [e, lv, m, 0]) vx) (by (repeat (first | exact At.here | apply At.there))))) (by rw [List.length_append]; simp; omega)) (h := ?_)); clear hk a; rintro _ w ⟨rfl, hS1⟩ a hk; replace hS := hS.call0 hS1; clear hS1
  (repeat' (first | (show wpListIn _ _ _ _ _ (_ :: _) _ _; first | (refine wx1 ?_; clear hk a; intro a hk) | (refine wx2 ?_ ?_ <;> (intro hp; clear hk a; intro a hk)) | (refine wx3 ?_; clear hk hS a; intro w b hS a hk) | (refine wx4 ?_; clear hk hS a; intro w hS a hk) | (refine wx5 ?_; clear hk hS a; intro w v hS a hk) | fail) | refine wx0 ?_ | (refine s_end hk ?_; clear hk a; intro a hk) | fail))
  exact done1 hk (h := ⟨rfl, hS.sub (Sub.under (Sub.under .refl))⟩)
theorem size_any (t : Tree) (h : NdH) (w0 : World) (hp : P7 t) (hr : TrR w0 t h) : Calls Try.prog 16 #[ndV h] w0 (Ret fun v w => v = .int .i64 (cnt t : Int) ∧ St w0 [] w) := by
  have hr0 := hr
  obtain ⟨k, tag, key, text, cl, al, sl, e, lv, m, d, p, q, kids, a1, m1, a2, m2, a3, m3, a4, m4, H, rfl, rfl, -⟩ := hr.split
  show Calls Try.prog 16 #[.agg #[.int .i64 k, .string tag, .string key, .string text, .slice a1 cl.length m1, .slice a2 al.length m2, .slice a3 sl.length m3, .int .i64 e, .int .i64 lv, .int .i64 m, .int .i64 d, .bool p, .bool q, .slice a4 H.length m4]] w0 _
  refine enter Try.func16 rfl Try.ntmps16 rfl (fun a hk => ?_); have hS := St.refl w0
  (repeat' (first | (show wpListIn _ _ _ _ _ (_ :: _) _ _; first | (refine wx1 ?_; clear hk a; intro a hk) | (refine wx2 ?_ ?_ <;> (intro hp; clear hk a; intro a hk)) | (refine wx3 ?_; clear hk hS a; intro w b hS a hk) | (refine wx4 ?_; clear hk hS a; intro w hS a hk) | (refine wx5 ?_; clear hk hS a; intro w v hS a hk) | fail) | refine wx0 ?_ | (refine s_end hk ?_; clear hk a; intro a hk) | fail))
  refine sg hk (g_callO hk (hf := by kernel_rfl) (hc := fold_any 39 (by kernel_rfl) (fun t => (cnt t : Int)) P7 P7.kids size1_any _ _ (k, tag, key, text, ⟨a1, cl.length, m1⟩, ⟨a2, al.length, m2⟩, ⟨a3, sl.length, m3⟩, (e, lv, m, d, p, q), ⟨a4, H.length, m4⟩) _ (Nat.lt_succ_self _) hp (hS.rdTr hr0)) (h := ?_)); clear hk a; rintro _ w ⟨rfl, hS1⟩ a hk; replace hS := hS.call0 hS1; clear hS1
  (repeat' (first | (show wpListIn _ _ _ _ _ (_ :: _) _ _; first | (refine wx1 ?_; clear hk a; intro a hk) | (refine wx2 ?_ ?_ <;> (intro hp; clear hk a; intro a hk)) | (refine wx3 ?_; clear hk hS a; intro w b hS a hk) | (refine wx4 ?_; clear hk hS a; intro w hS a hk) | (refine wx5 ?_; clear hk hS a; intro w v hS a hk) | fail) | refine wx0 ?_ | (refine s_end hk ?_; clear hk a; intro a hk) | fail))
  exact done1 hk (h := ⟨rfl, hS.nil⟩)
theorem depth_any (t : Tree) (h : NdH) (w0 : World) (hp : P7 t) (hr : TrR w0 t h) : Calls Try.prog 18 #[ndV h] w0 (Ret fun v w => v = .int .i64 (dep t : Int) ∧ St w0 [] w) := by
  have hr0 := hr
  obtain ⟨k, tag, key, text, cl, al, sl, e, lv, m, d, p, q, kids, a1, m1, a2, m2, a3, m3, a4, m4, H, rfl, rfl, -⟩ := hr.split
  show Calls Try.prog 18 #[.agg #[.int .i64 k, .string tag, .string key, .string text, .slice a1 cl.length m1, .slice a2 al.length m2, .slice a3 sl.length m3, .int .i64 e, .int .i64 lv, .int .i64 m, .int .i64 d, .bool p, .bool q, .slice a4 H.length m4]] w0 _
  refine enter Try.func18 rfl Try.ntmps18 rfl (fun a hk => ?_); have hS := St.refl w0
  (repeat' (first | (show wpListIn _ _ _ _ _ (_ :: _) _ _; first | (refine wx1 ?_; clear hk a; intro a hk) | (refine wx2 ?_ ?_ <;> (intro hp; clear hk a; intro a hk)) | (refine wx3 ?_; clear hk hS a; intro w b hS a hk) | (refine wx4 ?_; clear hk hS a; intro w hS a hk) | (refine wx5 ?_; clear hk hS a; intro w v hS a hk) | fail) | refine wx0 ?_ | (refine s_end hk ?_; clear hk a; intro a hk) | fail))
  refine sg hk (g_callO hk (hf := by kernel_rfl) (hc := fold_any 41 (by kernel_rfl) (fun t => (dep t : Int)) P7 P7.kids depth1_any _ _ (k, tag, key, text, ⟨a1, cl.length, m1⟩, ⟨a2, al.length, m2⟩, ⟨a3, sl.length, m3⟩, (e, lv, m, d, p, q), ⟨a4, H.length, m4⟩) _ (Nat.lt_succ_self _) hp (hS.rdTr hr0)) (h := ?_)); clear hk a; rintro _ w ⟨rfl, hS1⟩ a hk; replace hS := hS.call0 hS1; clear hS1
  (repeat' (first | (show wpListIn _ _ _ _ _ (_ :: _) _ _; first | (refine wx1 ?_; clear hk a; intro a hk) | (refine wx2 ?_ ?_ <;> (intro hp; clear hk a; intro a hk)) | (refine wx3 ?_; clear hk hS a; intro w b hS a hk) | (refine wx4 ?_; clear hk hS a; intro w hS a hk) | (refine wx5 ?_; clear hk hS a; intro w v hS a hk) | fail) | refine wx0 ?_ | (refine s_end hk ?_; clear hk a; intro a hk) | fail))
  exact done1 hk (h := ⟨rfl, hS.nil⟩)
theorem longest_any (t : Tree) (h : NdH) (w0 : World) (hp : P7 t) (hr : TrR w0 t h) : Calls Try.prog 20 #[ndV h] w0 (Ret fun v w => v = .int .i64 (lng t) ∧ St w0 [] w) := by
  have hr0 := hr
  obtain ⟨k, tag, key, text, cl, al, sl, e, lv, m, d, p, q, kids, a1, m1, a2, m2, a3, m3, a4, m4, H, rfl, rfl, -⟩ := hr.split
  show Calls Try.prog 20 #[.agg #[.int .i64 k, .string tag, .string key, .string text, .slice a1 cl.length m1, .slice a2 al.length m2, .slice a3 sl.length m3, .int .i64 e, .int .i64 lv, .int .i64 m, .int .i64 d, .bool p, .bool q, .slice a4 H.length m4]] w0 _
  refine enter Try.func20 rfl Try.ntmps20 rfl (fun a hk => ?_); have hS := St.refl w0
  (repeat' (first | (show wpListIn _ _ _ _ _ (_ :: _) _ _; first | (refine wx1 ?_; clear hk a; intro a hk) | (refine wx2 ?_ ?_ <;> (intro hp; clear hk a; intro a hk)) | (refine wx3 ?_; clear hk hS a; intro w b hS a hk) | (refine wx4 ?_; clear hk hS a; intro w hS a hk) | (refine wx5 ?_; clear hk hS a; intro w v hS a hk) | fail) | refine wx0 ?_ | (refine s_end hk ?_; clear hk a; intro a hk) | fail))
  refine sg hk (g_callO hk (hf := by kernel_rfl) (hc := fold_any 43 (by kernel_rfl) lng P7 P7.kids long1_any _ _ (k, tag, key, text, ⟨a1, cl.length, m1⟩, ⟨a2, al.length, m2⟩, ⟨a3, sl.length, m3⟩, (e, lv, m, d, p, q), ⟨a4, H.length, m4⟩) _ (Nat.lt_succ_self _) hp (hS.rdTr hr0)) (h := ?_)); clear hk a; rintro _ w ⟨rfl, hS1⟩ a hk; replace hS := hS.call0 hS1; clear hS1
  (repeat' (first | (show wpListIn _ _ _ _ _ (_ :: _) _ _; first | (refine wx1 ?_; clear hk a; intro a hk) | (refine wx2 ?_ ?_ <;> (intro hp; clear hk a; intro a hk)) | (refine wx3 ?_; clear hk hS a; intro w b hS a hk) | (refine wx4 ?_; clear hk hS a; intro w hS a hk) | (refine wx5 ?_; clear hk hS a; intro w v hS a hk) | fail) | refine wx0 ?_ | (refine s_end hk ?_; clear hk a; intro a hk) | fail))
  exact done1 hk (h := ⟨rfl, hS.nil⟩)
set_option maxHeartbeats 4000000 in
theorem rsize_any : ∀ (n : Nat) (t : Tree) (h : NdH) (w0 : World), SizeOf.sizeOf t < n → P7 t → TrR w0 t h → Calls Try.prog 17 #[ndV h] w0 (Ret fun v w => v = .int .i64 (cnt t : Int) ∧ St w0 [] w)
  | 0, _, _, _, hn, _, _ => by omega
  | n + 1, t, h, w0, hn, hp, hr => by
    have ih := rsize_any n
    obtain ⟨hfits, hkids⟩ := P7.kids t hp
    obtain ⟨k, tag, key, text, cl, al, sl, e, lv, m, d, p, q, kids, a1, m1, a2, m2, a3, m3, a4, m4, H, rfl, rfl, c1, c2, c3, c4, hF⟩ := hr.split
    obtain ⟨l1, l2, l3, l4, l5⟩ := hfits
    have hHk : H.length = kids.length := hF.1
    have hcn := hp.2
    have hdl := dep_le (.mk k tag key text cl al sl (e, lv, m, d, p, q) kids)
    simp only [cnt, dep] at hcn hdl
    show Calls Try.prog 17 #[.agg #[.int .i64 k, .string tag, .string key, .string text, .slice a1 cl.length m1, .slice a2 al.length m2, .slice a3 sl.length m3, .int .i64 e, .int .i64 lv, .int .i64 m, .int .i64 d, .bool p, .bool q, .slice a4 H.length m4]] w0 _
    have c4' := c4
    refine enter Try.func17 rfl Try.ntmps17 rfl (fun a hk => ?_); have hS := St.refl w0
    (repeat' (first | (show wpListIn _ _ _ _ _ (_ :: _) _ _; first | (refine wx1 ?_; clear hk a; intro a hk) | (refine wx2 ?_ ?_ <;> (intro hp; clear hk a; intro a hk)) | (refine wx3 ?_; clear hk hS a; intro w b hS a hk) | (refine wx4 ?_; clear hk hS a; intro w hS a hk) | (refine wx5 ?_; clear hk hS a; intro w v hS a hk) | fail) | refine wx0 ?_ | (refine s_end hk ?_; clear hk a; intro a hk) | fail))
    rename Nat => b1
    replace hk := Kn.kp [3, 7, 8, 9] hk
    refine wp_for H.length (fun i _ => [(3, .int .i64 ((cntL (kids.take i) + 1 : Nat) : Int)), (9, .int .i64 (i : Int))]) (fun _ _ => [pts b1 [.int .i64 k, .string tag, .string key, .string text, .slice a1 cl.length m1, .slice a2 al.length m2, .slice a3 sl.length m3, .int .i64 e, .int .i64 lv, .int .i64 m, .int .i64 d, .bool p, .bool q, .slice a4 H.length m4] 31]) (fun _ _ => True) () hk (by repeat (first | exact trivial | refine ⟨rfl, ?_⟩)) hS.sb trivial ?_
    clear hk hS a
    rintro i - a w hi hk hS -
    by_cases hil : i < H.length
    · obtain ⟨tk, htk⟩ : ∃ t, kids[i]? = some t := ⟨_, List.getElem?_eq_getElem (by omega)⟩
      obtain ⟨hd0, hx⟩ : ∃ x, H[i]? = some x := ⟨_, List.getElem?_eq_getElem hil⟩
      have hTr := hF.2 i tk hd0 htk hx
      have hpk := hkids tk (List.mem_of_getElem? htk)
      have hlt : SizeOf.sizeOf tk < n := by have := kid_lt (k := k) (tag := tag) (key := key) (text := text) (cl := cl) (at_ := al) (st := sl) (o := (e, lv, m, d, p, q)) (List.mem_of_getElem? htk); omega
      have hct := cntL_take kids (i + 1)
      have hst : ((cntL (kids.take (i + 1)) + 1 : Nat) : Int) = ((cntL (kids.take i) + 1 : Nat) : Int) + (cnt tk : Int) := by rw [take_snoc htk, cntL_snoc]; omega
      obtain ⟨k0, tag0, key0, text0, ⟨x1, x2, x3⟩, ⟨y1, y2, y3⟩, ⟨z1, z2, z3⟩, ⟨e0, lv0, m0, d0, p0, q0⟩, ⟨u1, u2, u3⟩⟩ := hd0
      have hv1 := hS.rdT c4
      (repeat' (first | (show wpListIn _ _ _ _ _ (_ :: _) _ _; first | (refine wx1 ?_; clear hk a; intro a hk) | (refine wx2 ?_ ?_ <;> (intro hp; clear hk a; intro a hk)) | (refine wx3 ?_; clear hk hS a; intro w b hS a hk) | (refine wx4 ?_; clear hk hS a; intro w hS a hk) | (refine wx5 ?_; clear hk hS a; intro w v hS a hk) | fail) | refine wx0 ?_ | (refine s_end hk ?_; clear hk a; intro a hk) | fail))
      refine sg hk (g_callO hk (hf := by kernel_rfl) (hc := ih tk (k0, tag0, key0, text0, ⟨x1, x2, x3⟩, ⟨y1, y2, y3⟩, ⟨z1, z2, z3⟩, (e0, lv0, m0, d0, p0, q0), ⟨u1, u2, u3⟩) _ hlt hpk (hS.rdTr hTr)) (h := ?_)); clear hk a; rintro _ w ⟨rfl, hS1⟩ a hk; replace hS := hS.call0 hS1; clear hS1
      (repeat' (first | (show wpListIn _ _ _ _ _ (_ :: _) _ _; first | (refine wx1 ?_; clear hk a; intro a hk) | (refine wx2 ?_ ?_ <;> (intro hp; clear hk a; intro a hk)) | (refine wx3 ?_; clear hk hS a; intro w b hS a hk) | (refine wx4 ?_; clear hk hS a; intro w hS a hk) | (refine wx5 ?_; clear hk hS a; intro w v hS a hk) | fail) | refine wx0 ?_ | (refine s_end hk ?_; clear hk a; intro a hk) | fail))
      rw [← hst] at hk
      exact ⟨hil, (), hk.sd, hS.sb, trivial⟩
    · have hii : i = kids.length := by omega
      subst hii
      rw [List.take_length] at hk
      (repeat' (first | (show wpListIn _ _ _ _ _ (_ :: _) _ _; first | (refine wx1 ?_; clear hk a; intro a hk) | (refine wx2 ?_ ?_ <;> (intro hp; clear hk a; intro a hk)) | (refine wx3 ?_; clear hk hS a; intro w b hS a hk) | (refine wx4 ?_; clear hk hS a; intro w hS a hk) | (refine wx5 ?_; clear hk hS a; intro w v hS a hk) | fail) | refine wx0 ?_ | (refine s_end hk ?_; clear hk a; intro a hk) | fail))
      exact done1 hk (h := ⟨by simp only [cnt], hS.nil⟩)
set_option maxHeartbeats 4000000 in
theorem rdepth_any : ∀ (n : Nat) (t : Tree) (h : NdH) (w0 : World), SizeOf.sizeOf t < n → P7 t → TrR w0 t h → Calls Try.prog 19 #[ndV h] w0 (Ret fun v w => v = .int .i64 (dep t : Int) ∧ St w0 [] w)
  | 0, _, _, _, hn, _, _ => by omega
  | n + 1, t, h, w0, hn, hp, hr => by
    have ih := rdepth_any n
    obtain ⟨hfits, hkids⟩ := P7.kids t hp
    obtain ⟨k, tag, key, text, cl, al, sl, e, lv, m, d, p, q, kids, a1, m1, a2, m2, a3, m3, a4, m4, H, rfl, rfl, c1, c2, c3, c4, hF⟩ := hr.split
    obtain ⟨l1, l2, l3, l4, l5⟩ := hfits
    have hHk : H.length = kids.length := hF.1
    have hcn := hp.2
    have hdl := dep_le (.mk k tag key text cl al sl (e, lv, m, d, p, q) kids)
    simp only [cnt, dep] at hcn hdl
    show Calls Try.prog 19 #[.agg #[.int .i64 k, .string tag, .string key, .string text, .slice a1 cl.length m1, .slice a2 al.length m2, .slice a3 sl.length m3, .int .i64 e, .int .i64 lv, .int .i64 m, .int .i64 d, .bool p, .bool q, .slice a4 H.length m4]] w0 _
    have c4' := c4
    refine enter Try.func19 rfl Try.ntmps19 rfl (fun a hk => ?_); have hS := St.refl w0
    (repeat' (first | (show wpListIn _ _ _ _ _ (_ :: _) _ _; first | (refine wx1 ?_; clear hk a; intro a hk) | (refine wx2 ?_ ?_ <;> (intro hp; clear hk a; intro a hk)) | (refine wx3 ?_; clear hk hS a; intro w b hS a hk) | (refine wx4 ?_; clear hk hS a; intro w hS a hk) | (refine wx5 ?_; clear hk hS a; intro w v hS a hk) | fail) | refine wx0 ?_ | (refine s_end hk ?_; clear hk a; intro a hk) | fail))
    rename Nat => b1
    replace hk := Kn.kp [3, 7, 8, 9] hk
    refine wp_for H.length (fun i _ => [(3, .int .i64 ((depL (kids.take i) : Nat) : Int)), (9, .int .i64 (i : Int))]) (fun _ _ => [pts b1 [.int .i64 k, .string tag, .string key, .string text, .slice a1 cl.length m1, .slice a2 al.length m2, .slice a3 sl.length m3, .int .i64 e, .int .i64 lv, .int .i64 m, .int .i64 d, .bool p, .bool q, .slice a4 H.length m4] 31]) (fun _ _ => True) () hk (by repeat (first | exact trivial | refine ⟨rfl, ?_⟩)) hS.sb trivial ?_
    clear hk hS a
    rintro i - a w hi hk hS -
    by_cases hil : i < H.length
    · obtain ⟨tk, htk⟩ : ∃ t, kids[i]? = some t := ⟨_, List.getElem?_eq_getElem (by omega)⟩
      obtain ⟨hd0, hx⟩ : ∃ x, H[i]? = some x := ⟨_, List.getElem?_eq_getElem hil⟩
      have hTr := hF.2 i tk hd0 htk hx
      have hpk := hkids tk (List.mem_of_getElem? htk)
      have hlt : SizeOf.sizeOf tk < n := by have := kid_lt (k := k) (tag := tag) (key := key) (text := text) (cl := cl) (at_ := al) (st := sl) (o := (e, lv, m, d, p, q)) (List.mem_of_getElem? htk); omega
      have hct := cntL_take kids (i + 1)
      have hst : ((depL (kids.take (i + 1)) : Nat) : Int) = max ((depL (kids.take i) : Nat) : Int) (dep tk : Int) := by rw [take_snoc htk, depL_snoc]; omega
      obtain ⟨k0, tag0, key0, text0, ⟨x1, x2, x3⟩, ⟨y1, y2, y3⟩, ⟨z1, z2, z3⟩, ⟨e0, lv0, m0, d0, p0, q0⟩, ⟨u1, u2, u3⟩⟩ := hd0
      have hv1 := hS.rdT c4
      (repeat' (first | (show wpListIn _ _ _ _ _ (_ :: _) _ _; first | (refine wx1 ?_; clear hk a; intro a hk) | (refine wx2 ?_ ?_ <;> (intro hp; clear hk a; intro a hk)) | (refine wx3 ?_; clear hk hS a; intro w b hS a hk) | (refine wx4 ?_; clear hk hS a; intro w hS a hk) | (refine wx5 ?_; clear hk hS a; intro w v hS a hk) | fail) | refine wx0 ?_ | (refine s_end hk ?_; clear hk a; intro a hk) | fail))
      refine sg hk (g_callO hk (hf := by kernel_rfl) (hc := ih tk (k0, tag0, key0, text0, ⟨x1, x2, x3⟩, ⟨y1, y2, y3⟩, ⟨z1, z2, z3⟩, (e0, lv0, m0, d0, p0, q0), ⟨u1, u2, u3⟩) _ hlt hpk (hS.rdTr hTr)) (h := ?_)); clear hk a; rintro _ w ⟨rfl, hS1⟩ a hk; replace hS := hS.call0 hS1; clear hS1
      (repeat' (first | (show wpListIn _ _ _ _ _ (_ :: _) _ _; first | (refine wx1 ?_; clear hk a; intro a hk) | (refine wx2 ?_ ?_ <;> (intro hp; clear hk a; intro a hk)) | (refine wx3 ?_; clear hk hS a; intro w b hS a hk) | (refine wx4 ?_; clear hk hS a; intro w hS a hk) | (refine wx5 ?_; clear hk hS a; intro w v hS a hk) | fail) | refine wx0 ?_ | (refine s_end hk ?_; clear hk a; intro a hk) | fail))
      rw [← hst] at hk
      exact ⟨hil, (), hk.sd, hS.sb, trivial⟩
    · have hii : i = kids.length := by omega
      subst hii
      rw [List.take_length] at hk
      (repeat' (first | (show wpListIn _ _ _ _ _ (_ :: _) _ _; first | (refine wx1 ?_; clear hk a; intro a hk) | (refine wx2 ?_ ?_ <;> (intro hp; clear hk a; intro a hk)) | (refine wx3 ?_; clear hk hS a; intro w b hS a hk) | (refine wx4 ?_; clear hk hS a; intro w hS a hk) | (refine wx5 ?_; clear hk hS a; intro w v hS a hk) | fail) | refine wx0 ?_ | (refine s_end hk ?_; clear hk a; intro a hk) | fail))
      exact done1 hk (h := ⟨by simp only [dep]; rfl, hS.nil⟩)
set_option maxHeartbeats 4000000 in
theorem rlongest_any : ∀ (n : Nat) (t : Tree) (h : NdH) (w0 : World), SizeOf.sizeOf t < n → P7 t → TrR w0 t h → Calls Try.prog 21 #[ndV h] w0 (Ret fun v w => v = .int .i64 (lng t) ∧ St w0 [] w)
  | 0, _, _, _, hn, _, _ => by omega
  | n + 1, t, h, w0, hn, hp, hr => by
    have ih := rlongest_any n
    obtain ⟨hfits, hkids⟩ := P7.kids t hp
    obtain ⟨k, tag, key, text, cl, al, sl, e, lv, m, d, p, q, kids, a1, m1, a2, m2, a3, m3, a4, m4, H, rfl, rfl, c1, c2, c3, c4, hF⟩ := hr.split
    obtain ⟨l1, l2, l3, l4, l5⟩ := hfits
    have hHk : H.length = kids.length := hF.1
    have hcn := hp.2
    have hdl := dep_le (.mk k tag key text cl al sl (e, lv, m, d, p, q) kids)
    simp only [cnt, dep] at hcn hdl
    show Calls Try.prog 21 #[.agg #[.int .i64 k, .string tag, .string key, .string text, .slice a1 cl.length m1, .slice a2 al.length m2, .slice a3 sl.length m3, .int .i64 e, .int .i64 lv, .int .i64 m, .int .i64 d, .bool p, .bool q, .slice a4 H.length m4]] w0 _
    have c4' := c4
    refine enter Try.func21 rfl Try.ntmps21 rfl (fun a hk => ?_); have hS := St.refl w0
    (repeat' (first | (show wpListIn _ _ _ _ _ (_ :: _) _ _; first | (refine wx1 ?_; clear hk a; intro a hk) | (refine wx2 ?_ ?_ <;> (intro hp; clear hk a; intro a hk)) | (refine wx3 ?_; clear hk hS a; intro w b hS a hk) | (refine wx4 ?_; clear hk hS a; intro w hS a hk) | (refine wx5 ?_; clear hk hS a; intro w v hS a hk) | fail) | refine wx0 ?_ | (refine s_end hk ?_; clear hk a; intro a hk) | fail))
    rename Nat => b1
    replace hk := Kn.kp [3, 19, 20, 21] hk
    refine wp_for H.length (fun i _ => [(3, .int .i64 (max (max 0 (max e (max lv m))) (lngL (kids.take i)))), (21, .int .i64 (i : Int))]) (fun _ _ => [pts b1 [.int .i64 k, .string tag, .string key, .string text, .slice a1 cl.length m1, .slice a2 al.length m2, .slice a3 sl.length m3, .int .i64 e, .int .i64 lv, .int .i64 m, .int .i64 d, .bool p, .bool q, .slice a4 H.length m4] 31]) (fun _ _ => True) () hk (by simp only [List.take_zero, lngL]; refine ⟨?_, rfl, trivial⟩; show some _ = some _; congr 2; omega) hS.sb trivial ?_
    clear hk hS a
    rintro i - a w hi hk hS -
    by_cases hil : i < H.length
    · obtain ⟨tk, htk⟩ : ∃ t, kids[i]? = some t := ⟨_, List.getElem?_eq_getElem (by omega)⟩
      obtain ⟨hd0, hx⟩ : ∃ x, H[i]? = some x := ⟨_, List.getElem?_eq_getElem hil⟩
      have hTr := hF.2 i tk hd0 htk hx
      have hpk := hkids tk (List.mem_of_getElem? htk)
      have hlt : SizeOf.sizeOf tk < n := by have := kid_lt (k := k) (tag := tag) (key := key) (text := text) (cl := cl) (at_ := al) (st := sl) (o := (e, lv, m, d, p, q)) (List.mem_of_getElem? htk); omega
      have hct := cntL_take kids (i + 1)
      have hst : max (max 0 (max e (max lv m))) (lngL (kids.take (i + 1))) = max (max (max 0 (max e (max lv m))) (lngL (kids.take i))) (lng tk) := by rw [take_snoc htk, lngL_snoc]; omega
      obtain ⟨k0, tag0, key0, text0, ⟨x1, x2, x3⟩, ⟨y1, y2, y3⟩, ⟨z1, z2, z3⟩, ⟨e0, lv0, m0, d0, p0, q0⟩, ⟨u1, u2, u3⟩⟩ := hd0
      have hv1 := hS.rdT c4
      (repeat' (first | (show wpListIn _ _ _ _ _ (_ :: _) _ _; first | (refine wx1 ?_; clear hk a; intro a hk) | (refine wx2 ?_ ?_ <;> (intro hp; clear hk a; intro a hk)) | (refine wx3 ?_; clear hk hS a; intro w b hS a hk) | (refine wx4 ?_; clear hk hS a; intro w hS a hk) | (refine wx5 ?_; clear hk hS a; intro w v hS a hk) | fail) | refine wx0 ?_ | (refine s_end hk ?_; clear hk a; intro a hk) | fail))
      refine sg hk (g_callO hk (hf := by kernel_rfl) (hc := ih tk (k0, tag0, key0, text0, ⟨x1, x2, x3⟩, ⟨y1, y2, y3⟩, ⟨z1, z2, z3⟩, (e0, lv0, m0, d0, p0, q0), ⟨u1, u2, u3⟩) _ hlt hpk (hS.rdTr hTr)) (h := ?_)); clear hk a; rintro _ w ⟨rfl, hS1⟩ a hk; replace hS := hS.call0 hS1; clear hS1
      (repeat' (first | (show wpListIn _ _ _ _ _ (_ :: _) _ _; first | (refine wx1 ?_; clear hk a; intro a hk) | (refine wx2 ?_ ?_ <;> (intro hp; clear hk a; intro a hk)) | (refine wx3 ?_; clear hk hS a; intro w b hS a hk) | (refine wx4 ?_; clear hk hS a; intro w hS a hk) | (refine wx5 ?_; clear hk hS a; intro w v hS a hk) | fail) | refine wx0 ?_ | (refine s_end hk ?_; clear hk a; intro a hk) | fail))
      rw [← hst] at hk
      exact ⟨hil, (), hk.sd, hS.sb, trivial⟩
    · have hii : i = kids.length := by omega
      subst hii
      rw [List.take_length] at hk
      (repeat' (first | (show wpListIn _ _ _ _ _ (_ :: _) _ _; first | (refine wx1 ?_; clear hk a; intro a hk) | (refine wx2 ?_ ?_ <;> (intro hp; clear hk a; intro a hk)) | (refine wx3 ?_; clear hk hS a; intro w b hS a hk) | (refine wx4 ?_; clear hk hS a; intro w hS a hk) | (refine wx5 ?_; clear hk hS a; intro w v hS a hk) | fail) | refine wx0 ?_ | (refine s_end hk ?_; clear hk a; intro a hk) | fail))
      exact done1 hk (h := ⟨by simp only [lng], hS.nil⟩)
end Go.Proofs.Ytkcjkbnbblpomaa
