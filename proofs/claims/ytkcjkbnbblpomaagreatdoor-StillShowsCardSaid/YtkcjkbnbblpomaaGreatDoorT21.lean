/- Layer 9: it and all below it, each told to a function that is handed in. Layer 9: an empty tree; what is frozen, forgotten. Layer 9: the awakening: a view's static rendering, the empty tree of nodes. Layer 7: which views may be, in plain words. -/
import Derived.Test.YtkcjkbnbblpomaaGreatDoorT12
import Derived.Test.YtkcjkbnbblpomaaGreatDoorT16
import Derived.Test.YtkcjkbnbblpomaaGreatDoorT17
import Derived.Test.YtkcjkbnbblpomaaGreatDoorT18
import Derived.Test.YtkcjkbnbblpomaaGreatDoorT20
set_option linter.all false
namespace Go.Proofs.YtkcjkbnbblpomaaGreatDoor
open Go.RowKit
set_option maxRecDepth 100000
attribute [local irreducible] Go.Code.wpIn Go.wpListIn Go.Calls Gives Go.Exit.then Go.Exit.inBlock Done ObxE

mutual
def preT : STree → List STree
  | .mk id k tag text cl al sl kids => .mk id k tag text cl al sl kids :: preL kids
def preL : List STree → List STree
  | [] => []
  | t :: ts => preT t ++ preL ts
end
theorem preL_app : ∀ (a b : List STree), preL (a ++ b) = preL a ++ preL b
  | [], b => by simp [preL]
  | t :: a, b => by rw [List.cons_append, preL, preL, preL_app a b, List.append_assoc]
theorem preL_snoc (a : List STree) (t : STree) : preL (a ++ [t]) = preL a ++ preT t := by rw [preL_app]; simp [preL]
def runP {σ : Type} (p : σ → STree → Bool × σ) : σ → List STree → Bool × σ
  | s, [] => (true, s)
  | s, x :: r => if (p s x).1 = true then runP p (p s x).2 r else (false, (p s x).2)
theorem runP_app {σ : Type} (p : σ → STree → Bool × σ) : ∀ (a b : List STree) (s : σ), runP p s (a ++ b) = if (runP p s a).1 = true then runP p (runP p s a).2 b else (false, (runP p s a).2)
  | [], b, s => by simp [runP]
  | x :: a, b, s => by
    rw [List.cons_append, runP, runP]
    by_cases h : (p s x).1 = true
    · rw [if_pos h, if_pos h, runP_app p a b]
    · rw [if_neg h, if_neg h, if_neg (by simp)]
theorem runP_m {σ : Type} {p : σ → STree → Bool × σ} {m : σ → Nat} (hm : ∀ s x, m (p s x).2 ≤ m s + 1) : ∀ (l : List STree) (s : σ), m (runP p s l).2 ≤ m s + l.length
  | [], s => by simp [runP]
  | x :: r, s => by
    rw [runP]
    have h := hm s x
    split
    · have := runP_m hm r (p s x).2
      rw [List.length_cons]; omega
    · rw [List.length_cons]; simp only; omega

set_option maxHeartbeats 4000000 in
theorem tall_any {σ : Type} (S : σ → HP) (p : σ → STree → Bool × σ) (m : σ → Nat) (M : Nat) (hm : ∀ s x, m (p s x).2 ≤ m s + 1) (f : FuncId) (cap : List Value) (hf : callable Tryz.prog f = true) (B : Bs)
    (hy : ∀ (s : σ) (x : STree) (h : SnH) (L : List HP) (w : World), m s < M → St B (S s :: L) w → SrR B.g x h → Calls Tryz.prog f (snV h :: cap).toArray w (Ret fun v w' => v = .bool (p s x).1 ∧ St B (S (p s x).2 :: L) w')) :
    ∀ (n : Nat) (t : STree) (h : SnH) (s : σ) (L : List HP) (w : World), SizeOf.sizeOf t < n → m s + (preT t).length ≤ M → SFits t → SrR B.g t h → St B (S s :: L) w →
      Calls Tryz.prog 50 #[snV h, .func (.func f) #[] cap.toArray] w (Ret fun v w' => v = .bool (runP p s (preT t)).1 ∧ St B (S (runP p s (preT t)).2 :: L) w')
  | 0, _, _, _, _, _, hn, _, _, _, _ => by omega
  | n + 1, t, h, s, L, w, hn, hmm, hfit, hr, hS => by
    have ih := tall_any S p m M hm f cap hf B hy n
    have hr0 := hr
    obtain ⟨id, k, tag, text, cl, al, sl, kids, a1, m1, a2, m2, a3, m3, a4, m4, H, rfl, rfl, c1, c2, c3, c4, hF⟩ := hr.split
    obtain ⟨l1, l2, l3, l4, l5⟩ := hfit
    have hHk : H.length = kids.length := hF.1
    rw [preT, List.length_cons] at hmm
    have hm1 := hm s (.mk id k tag text cl al sl kids)
    show Calls Tryz.prog 50 #[.agg #[.int .i64 id, .int .i64 k, .string tag, .string text, .slice a1 cl.length m1, .slice a2 al.length m2, .slice a3 sl.length m3, .slice a4 H.length m4], .func (.func f) #[] cap.toArray] w _
    refine enter Tryz.func50 rfl Tryz.ntmps50 rfl (fun a hk => ?_)
    refine wpIn_seq ?_; refine wpIn_region_lit ?_
    refine st_box hk hS ?_; clear hk hS a; intro w b1 hS a hk
    (repeat' (first | (show wpListIn _ _ _ _ _ (_ :: _) _ _; first | (refine wx1 ?_; clear hk a; intro a hk) | (refine wx2 ?_ ?_ <;> (intro hp; clear hk a; intro a hk)) | (refine wx3 ?_; clear hk hS a; intro w b hS a hk) | (refine wx4 ?_; clear hk hS a; intro w hS a hk) | (refine wx5 ?_; clear hk hS a; intro w v hS a hk) | fail) | refine wx0 ?_ | (refine s_end hk ?_; clear hk a; intro a hk) | fail))
    replace hS := hS.sub (L' := S s :: pts b1 [.int .i64 id, .int .i64 k, .string tag, .string text, .slice a1 cl.length m1, .slice a2 al.length m2, .slice a3 sl.length m3, .slice a4 H.length m4] 39 :: L) (by (repeat (first | exact Sub.nil | exact Sub.refl | refine Sub.cons (by (repeat (first | exact At.here | apply At.there))) ?_)))
    refine sg hk (g_callvO (first := []) (cap := cap) hk (hf := hf) (hc := hy s _ (id, k, tag, text, ⟨a1, cl.length, m1⟩, ⟨a2, al.length, m2⟩, ⟨a3, sl.length, m3⟩, ⟨a4, H.length, m4⟩) _ _ (by omega) hS hr0) (h := ?_)); clear hk hS a; rintro _ w ⟨rfl, hS⟩ a hk
    rw [preT, runP]
    generalize hps : p s (STree.mk id k tag text cl al sl kids) = ps at *
    obtain ⟨pb, s1⟩ := ps
    simp only at hS hk hm1 ⊢
    cases pb with
    | false =>
      (repeat' (first | (show wpListIn _ _ _ _ _ (_ :: _) _ _; first | (refine wx1 ?_; clear hk a; intro a hk) | (refine wx2 ?_ ?_ <;> (intro hp; clear hk a; intro a hk)) | (refine wx3 ?_; clear hk hS a; intro w b hS a hk) | (refine wx4 ?_; clear hk hS a; intro w hS a hk) | (refine wx5 ?_; clear hk hS a; intro w v hS a hk) | fail) | refine wx0 ?_ | (refine s_end hk ?_; clear hk a; intro a hk) | fail))
      exact done1 hk (h := ⟨rfl, hS.sub (.cons .here (Sub.under .refl))⟩)
    | true =>
      have c4' := c4.frz hS.frz
      (repeat' (first | (show wpListIn _ _ _ _ _ (_ :: _) _ _; first | (refine wx1 ?_; clear hk a; intro a hk) | (refine wx2 ?_ ?_ <;> (intro hp; clear hk a; intro a hk)) | (refine wx3 ?_; clear hk hS a; intro w b hS a hk) | (refine wx4 ?_; clear hk hS a; intro w hS a hk) | (refine wx5 ?_; clear hk hS a; intro w v hS a hk) | fail) | refine wx0 ?_ | (refine s_end hk ?_; clear hk a; intro a hk) | fail))
      replace hk := Kn.kp [1, 12, 13, 14] hk
      refine wp_for H.length (fun i _ => [(14, .int .i64 (i : Int))]) (fun i _ => S (runP p s1 (preL (kids.take i))).2 :: L) (fun i _ => (runP p s1 (preL (kids.take i))).1 = true) () hk (by repeat (first | exact trivial | refine ⟨rfl, ?_⟩)) (hS.sub (.cons .here (Sub.under .refl))) rfl ?_
      clear hk hS a c4'
      rintro i - a w hi hk hS hA
      have c4' := c4.frz hS.frz
      by_cases hil : i < H.length
      · obtain ⟨tk, htk⟩ : ∃ t, kids[i]? = some t := ⟨_, List.getElem?_eq_getElem (by omega)⟩
        obtain ⟨hd0, hx⟩ : ∃ x, H[i]? = some x := ⟨_, List.getElem?_eq_getElem hil⟩
        have hTr := hF.2 i tk hd0 htk hx
        have hmk := List.mem_of_getElem? htk
        have hlt : SizeOf.sizeOf tk < n := by have := skid_lt (id := id) (k := k) (tag := tag) (text := text) (cl := cl) (at_ := al) (st := sl) hmk; omega
        have hst : runP p s1 (preL (kids.take (i + 1))) = runP p (runP p s1 (preL (kids.take i))).2 (preT tk) := by rw [take_snoc htk, preL_snoc, runP_app, if_pos hA]
        have hml := runP_m hm (preL (kids.take i)) s1
        have hpl : (preL (kids.take i)).length + (preT tk).length ≤ (preL kids).length := by
          have e := congrArg List.length (preL_app (kids.take (i + 1)) (kids.drop (i + 1)))
          rw [List.take_append_drop, List.length_append, take_snoc htk, preL_snoc, List.length_append] at e
          omega
        obtain ⟨id', k', tag', text', ⟨x1, x2, x3⟩, ⟨y1, y2, y3⟩, ⟨z1, z2, z3⟩, ⟨u1, u2, u3⟩⟩ := hd0
        (repeat' (first | (show wpListIn _ _ _ _ _ (_ :: _) _ _; first | (refine wx1 ?_; clear hk a; intro a hk) | (refine wx2 ?_ ?_ <;> (intro hp; clear hk a; intro a hk)) | (refine wx3 ?_; clear hk hS a; intro w b hS a hk) | (refine wx4 ?_; clear hk hS a; intro w hS a hk) | (refine wx5 ?_; clear hk hS a; intro w v hS a hk) | fail) | refine wx0 ?_ | (refine s_end hk ?_; clear hk a; intro a hk) | fail))
        rename Nat => b6
        replace hS := hS.sub (L' := S (runP p s1 (preL (kids.take i))).2 :: L) (.cons (.there .here) (Sub.under .refl))
        refine sg hk (g_callO hk (hf := by kernel_rfl) (hc := ih tk (id', k', tag', text', ⟨x1, x2, x3⟩, ⟨y1, y2, y3⟩, ⟨z1, z2, z3⟩, ⟨u1, u2, u3⟩) _ _ _ hlt (by omega) (l5 tk hmk) hTr hS) (h := ?_)); clear hk hS a; rintro _ w ⟨rfl, hS⟩ a hk
        rw [← hst] at hS hk
        by_cases hb : (runP p s1 (preL (kids.take (i + 1)))).1 = true
        · rw [hb] at hk
          (repeat' (first | (show wpListIn _ _ _ _ _ (_ :: _) _ _; first | (refine wx1 ?_; clear hk a; intro a hk) | (refine wx2 ?_ ?_ <;> (intro hp; clear hk a; intro a hk)) | (refine wx3 ?_; clear hk hS a; intro w b hS a hk) | (refine wx4 ?_; clear hk hS a; intro w hS a hk) | (refine wx5 ?_; clear hk hS a; intro w v hS a hk) | fail) | refine wx0 ?_ | (refine s_end hk ?_; clear hk a; intro a hk) | fail))
          exact ⟨hil, (), hk.sd, hS, hb⟩
        · have hbf : (runP p s1 (preL (kids.take (i + 1)))).1 = false := by simpa using hb
          rw [hbf] at hk
          (repeat' (first | (show wpListIn _ _ _ _ _ (_ :: _) _ _; first | (refine wx1 ?_; clear hk a; intro a hk) | (refine wx2 ?_ ?_ <;> (intro hp; clear hk a; intro a hk)) | (refine wx3 ?_; clear hk hS a; intro w b hS a hk) | (refine wx4 ?_; clear hk hS a; intro w hS a hk) | (refine wx5 ?_; clear hk hS a; intro w v hS a hk) | fail) | refine wx0 ?_ | (refine s_end hk ?_; clear hk a; intro a hk) | fail))
          have hall : runP p s1 (preL kids) = (false, (runP p s1 (preL (kids.take (i + 1)))).2) := by
            conv => lhs; rw [← List.take_append_drop (i + 1) kids]
            rw [preL_app, runP_app, if_neg hb]
          rw [if_pos rfl, hall]
          exact done1 hk (h := ⟨rfl, hS⟩)
      · have hii : i = kids.length := by omega
        subst hii
        rw [List.take_length] at hS hA
        (repeat' (first | (show wpListIn _ _ _ _ _ (_ :: _) _ _; first | (refine wx1 ?_; clear hk a; intro a hk) | (refine wx2 ?_ ?_ <;> (intro hp; clear hk a; intro a hk)) | (refine wx3 ?_; clear hk hS a; intro w b hS a hk) | (refine wx4 ?_; clear hk hS a; intro w hS a hk) | (refine wx5 ?_; clear hk hS a; intro w v hS a hk) | fail) | refine wx0 ?_ | (refine s_end hk ?_; clear hk a; intro a hk) | fail))
        rw [if_pos rfl]
        exact done1 hk (h := ⟨by rw [hA], hS⟩)
def STree.id : STree → Int
  | .mk id _ _ _ _ _ _ _ => id
def idsH (b : Nat) (acc : List Int) : HP := bagH (fun hd : Hd => [pts b [hd.v] 62, OwT 3 acc hd.v]) (fun _ => True)
def idsT (t : STree) : List Int := (preT t).map STree.id
def idsP (acc : List Int) (x : STree) : Bool × List Int := (true, acc ++ [x.id])
theorem idsP_run : ∀ (l : List STree) (acc : List Int), runP idsP acc l = (true, acc ++ l.map STree.id)
  | [], acc => by simp [runP]
  | x :: r, acc => by
    rw [runP, idsP, if_pos rfl, idsP_run r]
    simp
theorem idsY_any (bb : Nat) (B : Bs) (acc : List Int) (x : STree) (h : SnH) (L : List HP) (w : World) (hl : acc.length < 100000) (hS : St B (idsH bb acc :: L) w) (hr : SrR B.g x h) :
    Calls Tryz.prog 52 #[snV h, .pointer (some ⟨bb, 0, none⟩)] w (Ret fun v w' => v = .bool true ∧ St B (idsH bb (acc ++ [x.id]) :: L) w') := by
  obtain ⟨id, k, tag, text, cl, al, sl, kids, a1, m1, a2, m2, a3, m3, a4, m4, H, rfl, rfl, -⟩ := hr.split
  obtain ⟨hd, -, hS1⟩ := St.bag hS .here
  clear hS
  have hS := hS1
  clear hS1
  rw [List.cons_append, List.cons_append, List.nil_append] at hS
  show Calls Tryz.prog 52 #[.agg #[.int .i64 id, .int .i64 k, .string tag, .string text, .slice a1 cl.length m1, .slice a2 al.length m2, .slice a3 sl.length m3, .slice a4 H.length m4], .pointer (some ⟨bb, 0, none⟩)] w _
  refine enter Tryz.func52 rfl Tryz.ntmps52 rfl (fun a hk => ?_)
  (repeat' (first | (show wpListIn _ _ _ _ _ (_ :: _) _ _; first | (refine wx1 ?_; clear hk a; intro a hk) | (refine wx2 ?_ ?_ <;> (intro hp; clear hk a; intro a hk)) | (refine wx3 ?_; clear hk hS a; intro w b hS a hk) | (refine wx4 ?_; clear hk hS a; intro w hS a hk) | (refine wx5 ?_; clear hk hS a; intro w v hS a hk) | fail) | refine wx0 ?_ | (refine s_end hk ?_; clear hk a; intro a hk) | fail))
  obtain ⟨aov, cv, hshp, _⟩ := (OwT.rd (hS.rd (A := OwT 3 _ v) (by (repeat (first | exact At.here | apply At.there))))).shape; subst hshp
  (repeat' (first | (show wpListIn _ _ _ _ _ (_ :: _) _ _; first | (refine wx1 ?_; clear hk a; intro a hk) | (refine wx2 ?_ ?_ <;> (intro hp; clear hk a; intro a hk)) | (refine wx3 ?_; clear hk hS a; intro w b hS a hk) | (refine wx4 ?_; clear hk hS a; intro w hS a hk) | (refine wx5 ?_; clear hk hS a; intro w v hS a hk) | fail) | refine wx0 ?_ | (refine s_end hk ?_; clear hk a; intro a hk) | fail))
  refine done1 hk (h := ⟨rfl, ?_⟩)
  exact bagH.of (A := fun hd : Hd => [pts bb [hd.v] 62, OwT 3 (acc ++ [id]) hd.v]) (x := ⟨aov, (acc ++ [id]).length, cv⟩) (hS.sub (.cons (by first | exact .here | exact .there .here) (.cons (by first | exact .here | exact .there .here) (Sub.under .refl)))) trivial
theorem ids_any (t : STree) (h : SnH) (w0 : World) (hf : SFits t) (hc : (preT t).length ≤ 10000) (hr : SrR w0 t h) : Calls Tryz.prog 22 #[snV h] w0 (Ret fun v w => St w0 [OwT 3 (idsT t) v] w) := by
  have hr0 := hr
  obtain ⟨id, k, tag, text, cl, al, sl, kids, a1, m1, a2, m2, a3, m3, a4, m4, H, rfl, rfl, -⟩ := hr.split
  generalize hT : STree.mk id k tag text cl al sl kids = T at *
  show Calls Tryz.prog 22 #[.agg #[.int .i64 id, .int .i64 k, .string tag, .string text, .slice a1 cl.length m1, .slice a2 al.length m2, .slice a3 sl.length m3, .slice a4 H.length m4]] w0 _
  refine enter Tryz.func22 rfl Tryz.ntmps22 rfl (fun a hk => ?_); have hS := St.refl w0
  (repeat' (first | (show wpListIn _ _ _ _ _ (_ :: _) _ _; first | (refine wx1 ?_; clear hk a; intro a hk) | (refine wx2 ?_ ?_ <;> (intro hp; clear hk a; intro a hk)) | (refine wx3 ?_; clear hk hS a; intro w b hS a hk) | (refine wx4 ?_; clear hk hS a; intro w hS a hk) | (refine wx5 ?_; clear hk hS a; intro w v hS a hk) | fail) | refine wx0 ?_ | (refine s_end hk ?_; clear hk a; intro a hk) | fail))
  rename Nat => b3
  replace hS := hS.nilT 3 Int
  replace hS : St w0 (idsH b3 [] :: []) w := bagH.of (A := fun hd : Hd => [pts b3 [hd.v] 62, OwT 3 ([] : List Int) hd.v]) (x := ⟨none, 0, 0⟩) (hS.sub (by (repeat (first | exact Sub.nil | exact Sub.refl | refine Sub.cons (by (repeat (first | exact At.here | apply At.there))) ?_)))) trivial
  refine sg hk (g_callO hk (hf := by kernel_rfl) (hc := tall_any (idsH b3) idsP List.length 100000 (fun s x => by simp [idsP]) 52 [.pointer (some ⟨b3, 0, none⟩)] (by kernel_rfl) w0 (fun s x h L w hl hS hr => idsY_any b3 w0 s x h L w hl hS hr) (SizeOf.sizeOf T + 1) T (id, k, tag, text, ⟨a1, cl.length, m1⟩, ⟨a2, al.length, m2⟩, ⟨a3, sl.length, m3⟩, ⟨a4, H.length, m4⟩) [] [] _ (by omega) (by simp only [List.length_nil]; omega) hf hr0 hS) (h := ?_)); clear hk hS a; rintro _ w ⟨rfl, hS⟩ a hk
  rw [idsP_run] at hS hk
  obtain ⟨hd, -, hS1⟩ := St.bag hS .here
  clear hS
  have hS := hS1
  clear hS1
  rw [List.cons_append, List.cons_append, List.nil_append] at hS
  (repeat' (first | (show wpListIn _ _ _ _ _ (_ :: _) _ _; first | (refine wx1 ?_; clear hk a; intro a hk) | (refine wx2 ?_ ?_ <;> (intro hp; clear hk a; intro a hk)) | (refine wx3 ?_; clear hk hS a; intro w b hS a hk) | (refine wx4 ?_; clear hk hS a; intro w hS a hk) | (refine wx5 ?_; clear hk hS a; intro w v hS a hk) | fail) | refine wx0 ?_ | (refine s_end hk ?_; clear hk a; intro a hk) | fail))
  exact done1 hk (h := hS.sub (by (repeat (first | exact Sub.nil | exact Sub.refl | refine Sub.cons (by (repeat (first | exact At.here | apply At.there))) ?_))))
theorem size9_any (t : STree) (h : SnH) (w0 : World) (hf : SFits t) (hc : (preT t).length ≤ 10000) (hr : SrR w0 t h) : Calls Tryz.prog 24 #[snV h] w0 (Ret fun v w => v = .int .i64 ((preT t).length : Int) ∧ St w0 [] w) := by
  have hr0 := hr
  obtain ⟨id, k, tag, text, cl, al, sl, kids, a1, m1, a2, m2, a3, m3, a4, m4, H, rfl, rfl, -⟩ := hr.split
  generalize hT : STree.mk id k tag text cl al sl kids = T at *
  have hl : (idsT T).length = (preT T).length := by unfold idsT; rw [List.length_map]
  show Calls Tryz.prog 24 #[.agg #[.int .i64 id, .int .i64 k, .string tag, .string text, .slice a1 cl.length m1, .slice a2 al.length m2, .slice a3 sl.length m3, .slice a4 H.length m4]] w0 _
  refine enter Tryz.func24 rfl Tryz.ntmps24 rfl (fun a hk => ?_); have hS := St.refl w0
  (repeat' (first | (show wpListIn _ _ _ _ _ (_ :: _) _ _; first | (refine wx1 ?_; clear hk a; intro a hk) | (refine wx2 ?_ ?_ <;> (intro hp; clear hk a; intro a hk)) | (refine wx3 ?_; clear hk hS a; intro w b hS a hk) | (refine wx4 ?_; clear hk hS a; intro w hS a hk) | (refine wx5 ?_; clear hk hS a; intro w v hS a hk) | fail) | refine wx0 ?_ | (refine s_end hk ?_; clear hk a; intro a hk) | fail))
  refine sg hk (g_callO hk (hf := by kernel_rfl) (hc := ids_any T (id, k, tag, text, ⟨a1, cl.length, m1⟩, ⟨a2, al.length, m2⟩, ⟨a3, sl.length, m3⟩, ⟨a4, H.length, m4⟩) _ hf hc (hS.rdSr hr0)) (h := ?_)); clear hk a; rintro vn w hS1 a hk; replace hS := hS.call hS1; clear hS1
  (repeat' (first | (show wpListIn _ _ _ _ _ (_ :: _) _ _; first | (refine wx1 ?_; clear hk a; intro a hk) | (refine wx2 ?_ ?_ <;> (intro hp; clear hk a; intro a hk)) | (refine wx3 ?_; clear hk hS a; intro w b hS a hk) | (refine wx4 ?_; clear hk hS a; intro w hS a hk) | (refine wx5 ?_; clear hk hS a; intro w v hS a hk) | fail) | refine wx0 ?_ | (refine s_end hk ?_; clear hk a; intro a hk) | fail))
  rw [hl] at hk
  exact done1 hk (h := ⟨rfl, hS.nil⟩)
end Go.Proofs.YtkcjkbnbblpomaaGreatDoor
namespace Go.Proofs.YtkcjkbnbblpomaaGreatDoor
open Go.RowKit
set_option maxRecDepth 100000
attribute [local irreducible] Go.Code.wpIn Go.wpListIn Go.Calls Gives Go.Exit.then Go.Exit.inBlock Done ObxE

abbrev zSn : SnH := (0, 0, ⟨#[]⟩, ⟨#[]⟩, ⟨none, 0, 0⟩, ⟨none, 0, 0⟩, ⟨none, 0, 0⟩, ⟨none, 0, 0⟩)
theorem St.flat {g w0 w : World} {L : List HP} (h : St ⟨g, w0⟩ L w) : St w0 [] w := ⟨h.below, Frz.of_below h.below, fun _ => False, fun _ h => h.elim, trivial⟩
end Go.Proofs.YtkcjkbnbblpomaaGreatDoor
namespace Go.Proofs.YtkcjkbnbblpomaaGreatDoor
open Go.RowKit
set_option maxRecDepth 100000
attribute [local irreducible] Go.Code.wpIn Go.wpListIn Go.Calls Gives Go.Exit.then Go.Exit.inBlock Done ObxE

theorem of9_any (t : Tree) (h : NdH) (w0 : World) (hf : Fit 1000000 t) (hfn : Fits (nrm t)) (hr : TrR w0 t h) : Calls Tryz.prog 11 #[ndV h] w0 (Ret fun v w => St w0 [streeH (stl (nrm t)) v] w) := by
  have hr0 := hr
  obtain ⟨k, tag, key, text, cl, al, sl, e, lv, m, d, p, q, kids, a1, m1, a2, m2, a3, m3, a4, m4, H, he0, rfl, c1, c2, c3, c4, hF⟩ := hr.split
  clear he0
  show Calls Tryz.prog 11 #[.agg #[.int .i64 k, .string tag, .string key, .string text, .slice a1 cl.length m1, .slice a2 al.length m2, .slice a3 sl.length m3, .int .i64 e, .int .i64 lv, .int .i64 m, .int .i64 d, .bool p, .bool q, .slice a4 H.length m4]] w0 _
  refine enter Tryz.func11 rfl Tryz.ntmps11 rfl (fun a hk => ?_); have hS := St.refl w0
  (repeat' (first | (show wpListIn _ _ _ _ _ (_ :: _) _ _; first | (refine wx1 ?_; clear hk a; intro a hk) | (refine wx2 ?_ ?_ <;> (intro hp; clear hk a; intro a hk)) | (refine wx3 ?_; clear hk hS a; intro w b hS a hk) | (refine wx4 ?_; clear hk hS a; intro w hS a hk) | (refine wx5 ?_; clear hk hS a; intro w v hS a hk) | fail) | refine wx0 ?_ | (refine s_end hk ?_; clear hk a; intro a hk) | fail))
  refine sg hk (g_callO hk (hf := by kernel_rfl) (hc := normal_any 1000000 (by omega) (SizeOf.sizeOf t + 1) t (k, tag, key, text, ⟨a1, cl.length, m1⟩, ⟨a2, al.length, m2⟩, ⟨a3, sl.length, m3⟩, (e, lv, m, d, p, q), ⟨a4, H.length, m4⟩) _ (by omega) hf (hS.rdTr hr0)) (h := ?_)); clear hk a; rintro vn w hS1 a hk; replace hS := hS.call hS1; clear hS1
  rw [List.cons_append, List.nil_append] at hS
  obtain ⟨hd1, rfl, hS1⟩ := St.tree hS .here
  clear hS
  have hS := hS1
  clear hS1
  obtain ⟨k1, tag1, key1, text1, ⟨B1, N1, M1⟩, ⟨B2, N2, M2⟩, ⟨B3, N3, M3⟩, ⟨e1, lv1, m1', d1, p1, q1⟩, ⟨B4, N4, M4⟩⟩ := hd1
  refine sg hk (g_callO hk (hf := by kernel_rfl) (hc := still_any (SizeOf.sizeOf (nrm t) + 1) (nrm t) (k1, tag1, key1, text1, ⟨B1, N1, M1⟩, ⟨B2, N2, M2⟩, ⟨B3, N3, M3⟩, (e1, lv1, m1', d1, p1, q1), ⟨B4, N4, M4⟩) _ (by omega) hfn (hS.trR .here)) (h := ?_)); clear hk a; rintro vm w hS1 a hk; replace hS := hS.call hS1; clear hS1
  rw [List.cons_append, List.nil_append] at hS
  obtain ⟨hd2, rfl, hS1⟩ := St.stree hS .here
  clear hS
  have hS := hS1
  clear hS1
  obtain ⟨id2, k2, tag2, text2, ⟨x12, x22, x32⟩, ⟨y12, y22, y32⟩, ⟨z12, z22, z32⟩, ⟨u12, u22, u32⟩⟩ := hd2
  (repeat' (first | (show wpListIn _ _ _ _ _ (_ :: _) _ _; first | (refine wx1 ?_; clear hk a; intro a hk) | (refine wx2 ?_ ?_ <;> (intro hp; clear hk a; intro a hk)) | (refine wx3 ?_; clear hk hS a; intro w b hS a hk) | (refine wx4 ?_; clear hk hS a; intro w hS a hk) | (refine wx5 ?_; clear hk hS a; intro w v hS a hk) | fail) | refine wx0 ?_ | (refine s_end hk ?_; clear hk a; intro a hk) | fail))
  refine done1R hk rfl (.str hS (hT := aT rfl) (hs := zT rfl)) (h := ?_)
  exact streeH.of (h := (id2, k2, tag2, text2, ⟨x12, x22, x32⟩, ⟨y12, y22, y32⟩, ⟨z12, z22, z32⟩, ⟨u12, u22, u32⟩)) (hS.sub (by (repeat (first | exact Sub.nil | exact Sub.refl | refine Sub.cons (by (repeat (first | exact At.here | apply At.there))) ?_))))
theorem clip9_any (w0 : World) : Calls Tryz.prog 59 #[.int .i64 1, .int .i64 1, .int .i64 65536] w0 (Ret fun v w => v = .int .i64 1 ∧ St w0 [] w) := by
  refine enter Tryz.func59 rfl Tryz.ntmps59 rfl (fun a hk => ?_); have hS := St.refl w0
  (repeat' (first | (show wpListIn _ _ _ _ _ (_ :: _) _ _; first | (refine wx1 ?_; clear hk a; intro a hk) | (refine wx2 ?_ ?_ <;> (intro hp; clear hk a; intro a hk)) | (refine wx3 ?_; clear hk hS a; intro w b hS a hk) | (refine wx4 ?_; clear hk hS a; intro w hS a hk) | (refine wx5 ?_; clear hk hS a; intro w v hS a hk) | fail) | refine wx0 ?_ | (refine s_end hk ?_; clear hk a; intro a hk) | fail))
  exact done1 hk (h := ⟨rfl, hS.nil⟩)
def encI (n : Int) : Value := .int .i64 n
theorem keyI : KeyT Tryz.prog 3 encI := keyInt (iT rfl)
abbrev domC (mv : Value) : List Value := [.int .i64 1, .int .i64 1, mv]
theorem mapH.shape {κ : Type} {enc : κ → Value} {v : Value} {l : List (κ × Value)} {w : World} (h : (mapH enc v l).rd w) : ∃ b, v = .map (some b) :=
  let ⟨_, b, _, _, h1, _⟩ := h
  ⟨b, h1⟩
theorem new9_any (w0 : World) : Calls Tryz.prog 32 #[.int .i64 1] w0 (Ret fun v w => ∃ bd bm e, v = .pointer (some ⟨bd, 0, none⟩) ∧ St w0 [pts bd (domC (.map (some bm))) 132, mapH encI (.map (some bm)) [((0 : Int), e)]] w) := by
  refine enter Tryz.func32 rfl Tryz.ntmps32 rfl (fun a hk => ?_); have hS := St.refl w0
  (repeat' (first | (show wpListIn _ _ _ _ _ (_ :: _) _ _; first | (refine wx1 ?_; clear hk a; intro a hk) | (refine wx2 ?_ ?_ <;> (intro hp; clear hk a; intro a hk)) | (refine wx3 ?_; clear hk hS a; intro w b hS a hk) | (refine wx4 ?_; clear hk hS a; intro w hS a hk) | (refine wx5 ?_; clear hk hS a; intro w v hS a hk) | fail) | refine wx0 ?_ | (refine s_end hk ?_; clear hk a; intro a hk) | fail))
  refine sg hk (g_callO hk (hf := by kernel_rfl) (hc := clip9_any _) (h := ?_)); clear hk a; rintro _ w ⟨rfl, hS1⟩ a hk; replace hS := hS.call0 hS1; clear hS1
  (repeat' (first | (show wpListIn _ _ _ _ _ (_ :: _) _ _; first | (refine wx1 ?_; clear hk a; intro a hk) | (refine wx2 ?_ ?_ <;> (intro hp; clear hk a; intro a hk)) | (refine wx3 ?_; clear hk hS a; intro w b hS a hk) | (refine wx4 ?_; clear hk hS a; intro w hS a hk) | (refine wx5 ?_; clear hk hS a; intro w v hS a hk) | fail) | refine wx0 ?_ | (refine s_end hk ?_; clear hk a; intro a hk) | fail))
  refine sg hk (g_makeMap encI hS ?_); clear hk hS a; intro w mv hS a hk
  obtain ⟨bm, rfl⟩ := mapH.shape (hS.rd (A := mapH encI mv ([] : List (Int × Value))) (by (repeat (first | exact At.here | apply At.there))))
  (repeat' (first | (show wpListIn _ _ _ _ _ (_ :: _) _ _; first | (refine wx1 ?_; clear hk a; intro a hk) | (refine wx2 ?_ ?_ <;> (intro hp; clear hk a; intro a hk)) | (refine wx3 ?_; clear hk hS a; intro w b hS a hk) | (refine wx4 ?_; clear hk hS a; intro w hS a hk) | (refine wx5 ?_; clear hk hS a; intro w v hS a hk) | fail) | refine wx0 ?_ | (refine s_end hk ?_; clear hk a; intro a hk) | fail))
  refine su hk (g_mapUpdate (k := (0 : Int)) hk hS ?_ (mT rfl) keyI); clear hk hS a; intro w hS a hk
  (repeat' (first | (show wpListIn _ _ _ _ _ (_ :: _) _ _; first | (refine wx1 ?_; clear hk a; intro a hk) | (refine wx2 ?_ ?_ <;> (intro hp; clear hk a; intro a hk)) | (refine wx3 ?_; clear hk hS a; intro w b hS a hk) | (refine wx4 ?_; clear hk hS a; intro w hS a hk) | (refine wx5 ?_; clear hk hS a; intro w v hS a hk) | fail) | refine wx0 ?_ | (refine s_end hk ?_; clear hk a; intro a hk) | fail))
  refine done1 hk (h := ⟨_, bm, _, rfl, hS.sub (by (repeat (first | exact Sub.nil | exact Sub.refl | refine Sub.cons (by (repeat (first | exact At.here | apply At.there))) ?_)))⟩)
theorem get9_any {B : Bs} {w : World} {L : List HP} {bd bm : Nat} {e : Value} (hS : St B (pts bd (domC (.map (some bm))) 132 :: mapH encI (.map (some bm)) [((0 : Int), e)] :: L) w) :
    Calls Tryz.prog 82 #[.pointer (some ⟨bd, 0, none⟩), .int .i64 5] w (Ret fun v w' => v = .tuple #[.agg #[.int .i64 0, .int .i64 0, .string ⟨#[]⟩, .string ⟨#[]⟩, .slice none 0 0, .slice none 0 0, .slice none 0 0, .int .i64 0, .slice none 0 0], .bool false] ∧ St B (pts bd (domC (.map (some bm))) 132 :: mapH encI (.map (some bm)) [((0 : Int), e)] :: L) w') := by
  refine enter Tryz.func82 rfl Tryz.ntmps82 rfl (fun a hk => ?_)
  (repeat' (first | (show wpListIn _ _ _ _ _ (_ :: _) _ _; first | (refine wx1 ?_; clear hk a; intro a hk) | (refine wx2 ?_ ?_ <;> (intro hp; clear hk a; intro a hk)) | (refine wx3 ?_; clear hk hS a; intro w b hS a hk) | (refine wx4 ?_; clear hk hS a; intro w hS a hk) | (refine wx5 ?_; clear hk hS a; intro w v hS a hk) | fail) | refine wx0 ?_ | (refine s_end hk ?_; clear hk a; intro a hk) | fail))
  refine sg hk (g_lookupOk (k := (5 : Int)) hk (hS.rd (A := mapH encI (.map (some bm)) [((0 : Int), e)]) (by (repeat (first | exact At.here | apply At.there)))) ?_ (mT rfl) keyI (oT rfl)); clear hk a; intro a hk
  rw [show getL [((0 : Int), e)] (5 : Int) = none from rfl] at hk
  simp only [Option.getD_none, Option.isSome_none] at hk
  (repeat' (first | (show wpListIn _ _ _ _ _ (_ :: _) _ _; first | (refine wx1 ?_; clear hk a; intro a hk) | (refine wx2 ?_ ?_ <;> (intro hp; clear hk a; intro a hk)) | (refine wx3 ?_; clear hk hS a; intro w b hS a hk) | (refine wx4 ?_; clear hk hS a; intro w hS a hk) | (refine wx5 ?_; clear hk hS a; intro w v hS a hk) | fail) | refine wx0 ?_ | (refine s_end hk ?_; clear hk a; intro a hk) | fail))
  exact done2R hk rfl (.str hS (hT := aT rfl) (hs := zT rfl)) (.tmp rfl) (h := ⟨rfl, hS.sub (.cons (by repeat (first | exact At.here | apply At.there)) (.cons (by repeat (first | exact At.here | apply At.there)) (by repeat (first | exact Sub.refl | apply Sub.under))))⟩)
theorem read9_any {B : Bs} {w : World} {L : List HP} {bd bm : Nat} {e : Value} (hS : St B (pts bd (domC (.map (some bm))) 132 :: mapH encI (.map (some bm)) [((0 : Int), e)] :: L) w) :
    Calls Tryz.prog 35 #[.pointer (some ⟨bd, 0, none⟩), .int .i64 5] w (Ret fun v w' => v = .tuple #[snV zSn, .int .i64 11] ∧ St B (pts bd (domC (.map (some bm))) 132 :: mapH encI (.map (some bm)) [((0 : Int), e)] :: L) w') := by
  refine enter Tryz.func35 rfl Tryz.ntmps35 rfl (fun a hk => ?_)
  (repeat' (first | (show wpListIn _ _ _ _ _ (_ :: _) _ _; first | (refine wx1 ?_; clear hk a; intro a hk) | (refine wx2 ?_ ?_ <;> (intro hp; clear hk a; intro a hk)) | (refine wx3 ?_; clear hk hS a; intro w b hS a hk) | (refine wx4 ?_; clear hk hS a; intro w hS a hk) | (refine wx5 ?_; clear hk hS a; intro w v hS a hk) | fail) | refine wx0 ?_ | (refine s_end hk ?_; clear hk a; intro a hk) | fail))
  refine sg hk (g_callO hk (hf := by kernel_rfl) (hc := get9_any (L := _) (hS.sub (.cons (by repeat (first | exact At.here | apply At.there)) (.cons (by repeat (first | exact At.here | apply At.there)) .refl)))) (h := ?_)); clear hk hS a; rintro _ w ⟨rfl, hS⟩ a hk
  (repeat' (first | (show wpListIn _ _ _ _ _ (_ :: _) _ _; first | (refine wx1 ?_; clear hk a; intro a hk) | (refine wx2 ?_ ?_ <;> (intro hp; clear hk a; intro a hk)) | (refine wx3 ?_; clear hk hS a; intro w b hS a hk) | (refine wx4 ?_; clear hk hS a; intro w hS a hk) | (refine wx5 ?_; clear hk hS a; intro w v hS a hk) | fail) | refine wx0 ?_ | (refine s_end hk ?_; clear hk a; intro a hk) | fail))
  exact done2R hk rfl (.str hS (hT := aT rfl) (hs := zT rfl)) (.tmp rfl) (h := ⟨rfl, hS.sub (.cons (by repeat (first | exact At.here | apply At.there)) (.cons (by repeat (first | exact At.here | apply At.there)) (by repeat (first | exact Sub.refl | apply Sub.under))))⟩)

abbrev txH (s : ByteArray) : NdH := (1, ⟨#[]⟩, ⟨#[]⟩, s, ⟨none, 0, 0⟩, ⟨none, 0, 0⟩, ⟨none, 0, 0⟩, (0, 0, 0, 0, false, false), ⟨none, 0, 0⟩)
abbrev txT (s : ByteArray) : Tree := .mk 1 ⟨#[]⟩ ⟨#[]⟩ s [] [] [] (0, 0, 0, 0, false, false) []
theorem leafR (w : World) (k : Int) (tag key text : ByteArray) (o : Opt) : TrR w (.mk k tag key text [] [] [] o []) (k, tag, key, text, ⟨none, 0, 0⟩, ⟨none, 0, 0⟩, ⟨none, 0, 0⟩, o, ⟨none, 0, 0⟩) :=
  .mk (SlT.nil (α := ByteArray) w) (SlT.nil (α := ByteArray × ByteArray) w) (SlT.nil (α := ByteArray × Int) w) (SlT.nil (α := NdH) w) rfl (fun i t h h1 _ => by simp at h1)
abbrev aT9 : Tree := .mk 2 ⟨#[112]⟩ ⟨#[]⟩ ⟨#[]⟩ [] [] [] (0, 0, 0, 0, false, false) [txT ⟨#[104, 105]⟩]
abbrev aS9 : STree := .mk 0 2 ⟨#[112]⟩ ⟨#[]⟩ [] [] [] [.mk 0 1 ⟨#[]⟩ ⟨#[104, 105]⟩ [] [] [] []]
theorem aT9_nrm : nrm aT9 = aT9 := by
  have e1 : nrm (txT ⟨#[104, 105]⟩) = txT ⟨#[104, 105]⟩ := by simp [nrm, nrmL, clnC, snapF, mrg]
  have v1 : ¬ (txT ⟨#[104, 105]⟩).void := by simp [Tree.void, Tree.kind, Tree.text]
  rw [aT9, nrm]
  simp only [nrmL, if_neg v1, e1]
  rfl
theorem aT9_stl : stl aT9 = aS9 := by simp [stl, stlL]
theorem aT9_fit : Fit 1000000 aT9 := .mk (by simp) (by simp) (by simp) (by simp) (by decide) (by
  intro t ht
  simp only [List.mem_cons, List.not_mem_nil, or_false] at ht
  rcases ht with rfl
  exact .mk (by simp) (by simp) (by simp) (by simp) (by decide) (by simp))
theorem aS9_fits : SFits aS9 := .mk (by simp) (by simp) (by simp) (by simp) (by
  intro t ht
  simp only [List.mem_cons, List.not_mem_nil, or_false] at ht
  rcases ht with rfl
  exact .mk (by simp) (by simp) (by simp) (by simp) (by simp))
theorem aS9_ssm : SSm aS9 := .mk (by unfold i64P; omega) (by decide) (by decide) (by simp) (by simp) (by simp) (by simp) (by simp) (by simp) (by
  intro t ht
  simp only [List.mem_cons, List.not_mem_nil, or_false] at ht
  rcases ht with rfl
  exact .mk (by unfold i64P; omega) (by decide) (by decide) (by simp) (by simp) (by simp) (by simp) (by simp) (by simp) (by simp))
theorem aS9_show0 : showT false aS9 = ⟨#[40, 112, 32, 39, 104, 105, 39, 41]⟩ := by decide +kernel
theorem aS9_show1 : showT true aS9 = ⟨#[40, 48, 58, 112, 32, 48, 58, 39, 104, 105, 39, 41]⟩ := by decide +kernel
theorem aS9_cnt : scnt aS9 = 2 := by simp [scnt, scntL]
theorem aS9_pre : (preT aS9).length = 2 := by simp [preT, preL]
theorem aT9_of {B : Bs} {L : List HP} {w : World} {ao : Option Addr} {c : Nat} (hS : St B (OwT 44 [txH ⟨#[104, 105]⟩] (.slice ao 1 c) :: L) w) :
    St B (treeR aT9 (2, ⟨#[112]⟩, ⟨#[]⟩, ⟨#[]⟩, ⟨none, 0, 0⟩, ⟨none, 0, 0⟩, ⟨none, 0, 0⟩, (0, 0, 0, 0, false, false), ⟨ao, 1, c⟩) :: L) w :=
  rdH.of (L1 := [OwT 44 [txH ⟨#[104, 105]⟩] (.slice ao 1 c)]) hS fun g hg =>
    .mk (SlT.nil (α := ByteArray) g) (SlT.nil (α := ByteArray × ByteArray) g) (SlT.nil (α := ByteArray × Int) g) (OwT.rd (hg (OwT 44 [txH ⟨#[104, 105]⟩] (.slice ao 1 c)) (by simp))) rfl ((FoR.nil g).snoc (leafR g 1 ⟨#[]⟩ ⟨#[]⟩ ⟨#[104, 105]⟩ (0, 0, 0, 0, false, false))).2

set_option maxHeartbeats 8000000 in
theorem awake09_any (w0 : World) (ht : TabW w0) : Calls Tryz.prog 9 #[] w0 (Ret fun v w => v = .bool true ∧ St w0 [] w) := by
  have ho := fun h w0 hr => of9_any aT9 h w0 aT9_fit (by rw [aT9_nrm]; exact aT9_fit.fits) hr
  rw [aT9_nrm, aT9_stl] at ho
  have hs0 := fun h w0 hr ht => show_any false (SizeOf.sizeOf aS9 + 1) aS9 h w0 (by omega) aS9_ssm (by rw [aS9_cnt]; omega) hr ht
  have hs1 := fun h w0 hr ht => show_any true (SizeOf.sizeOf aS9 + 1) aS9 h w0 (by omega) aS9_ssm (by rw [aS9_cnt]; omega) hr ht
  rw [aS9_show0] at hs0
  rw [aS9_show1] at hs1
  have hz := fun h w0 hr => size9_any aS9 h w0 aS9_fits (by rw [aS9_pre]; omega) hr
  rw [aS9_pre] at hz
  have hv := fun h w0 hr hr' => same9_any (SizeOf.sizeOf aS9 + 1) aS9 aS9 h h w0 (by omega) aS9_fits aS9_fits hr hr'
  rw [samS_self] at hv
  refine enter Tryz.func9 rfl Tryz.ntmps9 rfl (fun a hk => ?_); have hS := St.refl w0
  (repeat' (first | (show wpListIn _ _ _ _ _ (_ :: _) _ _; first | (refine wx1 ?_; clear hk a; intro a hk) | (refine wx2 ?_ ?_ <;> (intro hp; clear hk a; intro a hk)) | (refine wx3 ?_; clear hk hS a; intro w b hS a hk) | (refine wx4 ?_; clear hk hS a; intro w hS a hk) | (refine wx5 ?_; clear hk hS a; intro w v hS a hk) | fail) | refine wx0 ?_ | (refine s_end hk ?_; clear hk a; intro a hk) | fail))
  refine sg hk (g_bsT (xs := [txH ⟨#[104, 105]⟩]) (m := 0) hk hS ?_ (hT := eT rfl) (hE := zT rfl) (hz := oT rfl)); clear hk hS a; intro w vk hS a hk
  obtain ⟨aovk, cvk, hshp, _⟩ := (OwT.rd (hS.rd (A := OwT 44 _ vk) (by (repeat (first | exact At.here | apply At.there))))).shape; subst hshp
  have hT := aT9_of (L := []) hS
  clear hS
  have hS := hT
  clear hT
  (repeat' (first | (show wpListIn _ _ _ _ _ (_ :: _) _ _; first | (refine wx1 ?_; clear hk a; intro a hk) | (refine wx2 ?_ ?_ <;> (intro hp; clear hk a; intro a hk)) | (refine wx3 ?_; clear hk hS a; intro w b hS a hk) | (refine wx4 ?_; clear hk hS a; intro w hS a hk) | (refine wx5 ?_; clear hk hS a; intro w v hS a hk) | fail) | refine wx0 ?_ | (refine s_end hk ?_; clear hk a; intro a hk) | fail))
  refine sg hk (g_callO hk (hf := by kernel_rfl) (hc := ho (2, ⟨#[112]⟩, ⟨#[]⟩, ⟨#[]⟩, ⟨none, 0, 0⟩, ⟨none, 0, 0⟩, ⟨none, 0, 0⟩, (0, 0, 0, 0, false, false), ⟨aovk, 1, cvk⟩) _ (hS.trR (by (repeat (first | exact At.here | apply At.there))))) (h := ?_)); clear hk a; rintro vn w hS1 a hk; replace hS := hS.call hS1; clear hS1
  rw [List.cons_append, List.nil_append] at hS
  obtain ⟨hd1, rfl, hS1⟩ := St.stree hS .here
  clear hS
  have hS := hS1
  clear hS1
  obtain ⟨id2, k2, tag2, text2, ⟨x12, x22, x32⟩, ⟨y12, y22, y32⟩, ⟨z12, z22, z32⟩, ⟨u12, u22, u32⟩⟩ := hd1
  (repeat' (first | (show wpListIn _ _ _ _ _ (_ :: _) _ _; first | (refine wx1 ?_; clear hk a; intro a hk) | (refine wx2 ?_ ?_ <;> (intro hp; clear hk a; intro a hk)) | (refine wx3 ?_; clear hk hS a; intro w b hS a hk) | (refine wx4 ?_; clear hk hS a; intro w hS a hk) | (refine wx5 ?_; clear hk hS a; intro w v hS a hk) | fail) | refine wx0 ?_ | (refine s_end hk ?_; clear hk a; intro a hk) | fail))
  refine sg hk (g_callO hk (hf := by kernel_rfl) (hc := new9_any _) (h := ?_)); clear hk a; rintro vr w ⟨bd, bm, e, rfl, hS1⟩ a hk; replace hS := hS.call hS1; clear hS1
  rw [List.cons_append, List.cons_append, List.nil_append] at hS
  (repeat' (first | (show wpListIn _ _ _ _ _ (_ :: _) _ _; first | (refine wx1 ?_; clear hk a; intro a hk) | (refine wx2 ?_ ?_ <;> (intro hp; clear hk a; intro a hk)) | (refine wx3 ?_; clear hk hS a; intro w b hS a hk) | (refine wx4 ?_; clear hk hS a; intro w hS a hk) | (refine wx5 ?_; clear hk hS a; intro w v hS a hk) | fail) | refine wx0 ?_ | (refine s_end hk ?_; clear hk a; intro a hk) | fail))
  refine sg hk (g_callO hk (hf := by kernel_rfl) (hc := read9_any hS) (h := ?_)); clear hk hS a; rintro _ w ⟨rfl, hS⟩ a hk
  (repeat' (first | (show wpListIn _ _ _ _ _ (_ :: _) _ _; first | (refine wx1 ?_; clear hk a; intro a hk) | (refine wx2 ?_ ?_ <;> (intro hp; clear hk a; intro a hk)) | (refine wx3 ?_; clear hk hS a; intro w b hS a hk) | (refine wx4 ?_; clear hk hS a; intro w hS a hk) | (refine wx5 ?_; clear hk hS a; intro w v hS a hk) | fail) | refine wx0 ?_ | (refine s_end hk ?_; clear hk a; intro a hk) | fail))
  refine sg hk (g_callO hk (hf := by kernel_rfl) (hc := hs0 (id2, k2, tag2, text2, ⟨x12, x22, x32⟩, ⟨y12, y22, y32⟩, ⟨z12, z22, z32⟩, ⟨u12, u22, u32⟩) _ (hS.srR (t := aS9) (h := (id2, k2, tag2, text2, ⟨x12, x22, x32⟩, ⟨y12, y22, y32⟩, ⟨z12, z22, z32⟩, ⟨u12, u22, u32⟩)) (by (repeat (first | exact At.here | apply At.there)))) (ht.mono hS.below)) (h := ?_)); clear hk a; rintro _ w ⟨rfl, hS1⟩ a hk; replace hS := hS.call0 hS1; clear hS1
  (repeat' (first | (show wpListIn _ _ _ _ _ (_ :: _) _ _; first | (refine wx1 ?_; clear hk a; intro a hk) | (refine wx2 ?_ ?_ <;> (intro hp; clear hk a; intro a hk)) | (refine wx3 ?_; clear hk hS a; intro w b hS a hk) | (refine wx4 ?_; clear hk hS a; intro w hS a hk) | (refine wx5 ?_; clear hk hS a; intro w v hS a hk) | fail) | refine wx0 ?_ | (refine s_end hk ?_; clear hk a; intro a hk) | fail))
  refine sg hk (g_callO hk (hf := by kernel_rfl) (hc := hs1 (id2, k2, tag2, text2, ⟨x12, x22, x32⟩, ⟨y12, y22, y32⟩, ⟨z12, z22, z32⟩, ⟨u12, u22, u32⟩) _ (hS.srR (t := aS9) (h := (id2, k2, tag2, text2, ⟨x12, x22, x32⟩, ⟨y12, y22, y32⟩, ⟨z12, z22, z32⟩, ⟨u12, u22, u32⟩)) (by (repeat (first | exact At.here | apply At.there)))) (ht.mono hS.below)) (h := ?_)); clear hk a; rintro _ w ⟨rfl, hS1⟩ a hk; replace hS := hS.call0 hS1; clear hS1
  (repeat' (first | (show wpListIn _ _ _ _ _ (_ :: _) _ _; first | (refine wx1 ?_; clear hk a; intro a hk) | (refine wx2 ?_ ?_ <;> (intro hp; clear hk a; intro a hk)) | (refine wx3 ?_; clear hk hS a; intro w b hS a hk) | (refine wx4 ?_; clear hk hS a; intro w hS a hk) | (refine wx5 ?_; clear hk hS a; intro w v hS a hk) | fail) | refine wx0 ?_ | (refine s_end hk ?_; clear hk a; intro a hk) | fail))
  refine sg hk (g_callO hk (hf := by kernel_rfl) (hc := hv (id2, k2, tag2, text2, ⟨x12, x22, x32⟩, ⟨y12, y22, y32⟩, ⟨z12, z22, z32⟩, ⟨u12, u22, u32⟩) _ (hS.srR (t := aS9) (h := (id2, k2, tag2, text2, ⟨x12, x22, x32⟩, ⟨y12, y22, y32⟩, ⟨z12, z22, z32⟩, ⟨u12, u22, u32⟩)) (by (repeat (first | exact At.here | apply At.there)))) (hS.srR (t := aS9) (h := (id2, k2, tag2, text2, ⟨x12, x22, x32⟩, ⟨y12, y22, y32⟩, ⟨z12, z22, z32⟩, ⟨u12, u22, u32⟩)) (by (repeat (first | exact At.here | apply At.there))))) (h := ?_)); clear hk a; rintro _ w ⟨rfl, hS1⟩ a hk; replace hS := hS.call0 hS1; clear hS1
  (repeat' (first | (show wpListIn _ _ _ _ _ (_ :: _) _ _; first | (refine wx1 ?_; clear hk a; intro a hk) | (refine wx2 ?_ ?_ <;> (intro hp; clear hk a; intro a hk)) | (refine wx3 ?_; clear hk hS a; intro w b hS a hk) | (refine wx4 ?_; clear hk hS a; intro w hS a hk) | (refine wx5 ?_; clear hk hS a; intro w v hS a hk) | fail) | refine wx0 ?_ | (refine s_end hk ?_; clear hk a; intro a hk) | fail))
  refine sg hk (g_callO hk (hf := by kernel_rfl) (hc := hz (id2, k2, tag2, text2, ⟨x12, x22, x32⟩, ⟨y12, y22, y32⟩, ⟨z12, z22, z32⟩, ⟨u12, u22, u32⟩) _ (hS.srR (t := aS9) (h := (id2, k2, tag2, text2, ⟨x12, x22, x32⟩, ⟨y12, y22, y32⟩, ⟨z12, z22, z32⟩, ⟨u12, u22, u32⟩)) (by (repeat (first | exact At.here | apply At.there))))) (h := ?_)); clear hk a; rintro _ w ⟨rfl, hS1⟩ a hk; replace hS := hS.call0 hS1; clear hS1
  (repeat' (first | (show wpListIn _ _ _ _ _ (_ :: _) _ _; first | (refine wx1 ?_; clear hk a; intro a hk) | (refine wx2 ?_ ?_ <;> (intro hp; clear hk a; intro a hk)) | (refine wx3 ?_; clear hk hS a; intro w b hS a hk) | (refine wx4 ?_; clear hk hS a; intro w hS a hk) | (refine wx5 ?_; clear hk hS a; intro w v hS a hk) | fail) | refine wx0 ?_ | (refine s_end hk ?_; clear hk a; intro a hk) | fail))
  exact done1 hk (h := ⟨rfl, hS.nil⟩)
end Go.Proofs.YtkcjkbnbblpomaaGreatDoor
namespace Go.Proofs.YtkcjkbnbblpomaaGreatDoor
open Go.RowKit

def namesL (cl : List ByteArray) (al : List PrS) (sl : List PrI) : List ByteArray := cl ++ al.map (·.1) ++ sl.map (·.1)
def lasts (n : Int) : Bool := decide (0 ≤ n ∧ n ≤ 1000)
def optsB (o : Opt) (k : Int) : Bool :=
  if k = 3 then lasts o.1 && lasts o.2.1 && lasts o.2.2.1 && decide (o.2.2.2.1 = 0)
  else if k = 4 then lasts o.1 && lasts o.2.1 && decide (o.2.2.1 = 0) && !o.2.2.2.2.2 && decide (0 ≤ o.2.2.2.1 ∧ o.2.2.2.1 ≤ 2)
  else decide (o = (0, 0, 0, 0, false, false))
def bareB (tag key : ByteArray) (cl : List ByteArray) (al : List PrS) (sl : List PrI) (o : Opt) (kids : List Tree) : Bool :=
  decide (tag = ⟨#[]⟩ ∧ key = ⟨#[]⟩ ∧ cl.length + al.length + sl.length + kids.length = 0 ∧ o = (0, 0, 0, 0, false, false))
def valB (al : List PrS) (sl : List PrI) : Bool := al.all (fun x => valS x.2) && sl.all (fun x => decide (-2147483648 ≤ x.2 ∧ x.2 ≤ 2147483647))
def Tree.key : Tree → ByteArray
  | .mk _ _ y _ _ _ _ _ _ => y
def kidB (t : Tree) : Bool := decide (t.kind = 2 ∧ t.key ≠ ⟨#[]⟩)
def keptB (k : Int) (kids : List Tree) : Bool := decide (k = 2) || (kids.all kidB && (decide (k = 3) || decide (kids.length ≤ 1)))
def mayB (k : Int) (tag key text : ByteArray) (cl : List ByteArray) (al : List PrS) (sl : List PrI) (o : Opt) (kids : List Tree) : Bool :=
  if k = 1 then bareB tag key cl al sl o kids && txtS text
  else if k = 2 ∨ k = 3 ∨ k = 4 then decide (text = ⟨#[]⟩) && nameS tag && (namesL cl al sl).all nameS && (decide (key = ⟨#[]⟩) || keyS key) && valB al sl && optsB o k && keptB k kids
  else false
def cntK (c : ByteArray) (ks : List ByteArray) : Nat := ks.countP (fun x => decide (x = c))
def twcB (ks : List ByteArray) : Bool := ks.any (fun c => decide (c ≠ ⟨#[]⟩ ∧ 1 < cntK c ks))

mutual
def chkT : Tree → Int → Int → Int → Int × Int
  | .mk k tag key text cl al sl o kids, deep, depth, left =>
    if depth < deep then (7, left - 1)
    else if left - 1 < 0 then (8, left - 1)
    else if mayB k tag key text cl al sl o kids = false then (4, left - 1)
    else if (namesL cl al sl).any rsvS = true then (6, left - 1)
    else if twcB (kids.map Tree.key) = true then (5, left - 1)
    else chkL kids (deep + 1) depth (left - 1)
def chkL : List Tree → Int → Int → Int → Int × Int
  | [], _, _, left => (0, left)
  | t :: ts, deep, depth, left => if (chkT t deep depth left).1 = 0 then chkL ts deep depth (chkT t deep depth left).2 else chkT t deep depth left
end
theorem chkL_app : ∀ (ts us : List Tree) (deep depth left : Int), chkL (ts ++ us) deep depth left = if (chkL ts deep depth left).1 = 0 then chkL us deep depth (chkL ts deep depth left).2 else chkL ts deep depth left
  | [], us, deep, depth, left => by simp [chkL]
  | t :: ts, us, deep, depth, left => by
    rw [List.cons_append, chkL, chkL, chkL_app ts us]
    by_cases h : (chkT t deep depth left).1 = 0
    · rw [if_pos h, if_pos h]
    · rw [if_neg h, if_neg h, if_neg h]
theorem chkL_snoc (ts : List Tree) (t : Tree) (deep depth left : Int) (h : (chkL ts deep depth left).1 = 0) : chkL (ts ++ [t]) deep depth left = chkT t deep depth (chkL ts deep depth left).2 := by
  rw [chkL_app, if_pos h, chkL, chkL]
  split
  · rename_i h2
    exact Prod.ext h2.symm rfl
  · rfl
inductive Siz (X : Nat) : Tree → Prop
  | mk {k : Int} {tag key text : ByteArray} {cl : List ByteArray} {al : List (ByteArray × ByteArray)} {sl : List (ByteArray × Int)} {o : Opt} {kids : List Tree}
    (h1 : tag.size ≤ X) (h2 : key.size ≤ X) (h3 : text.size ≤ X) (h4 : ∀ c ∈ cl, c.size ≤ X) (h5 : ∀ x ∈ al, x.1.size ≤ X ∧ x.2.size ≤ X) (h6 : ∀ x ∈ sl, x.1.size ≤ X) (h7 : ∀ t ∈ kids, Siz X t) : Siz X (.mk k tag key text cl al sl o kids)
theorem Siz.names {X : Nat} {cl : List ByteArray} {al : List PrS} {sl : List PrI} (h4 : ∀ c ∈ cl, c.size ≤ X) (h5 : ∀ x ∈ al, x.1.size ≤ X ∧ x.2.size ≤ X) (h6 : ∀ x ∈ sl, x.1.size ≤ X) : ∀ c ∈ namesL cl al sl, c.size ≤ X := by
  intro c hc
  unfold namesL at hc
  rcases List.mem_append.1 hc with h | h
  · rcases List.mem_append.1 h with h | h
    · exact h4 c h
    · obtain ⟨x, hx, rfl⟩ := List.mem_map.1 h; exact (h5 x hx).1
  · obtain ⟨x, hx, rfl⟩ := List.mem_map.1 h; exact h6 x hx
theorem Small.siz {t : Tree} (h : Small t) : Siz 70 t := by
  induction h with
  | mk h hk ih =>
    obtain ⟨_, h2, h3, h4, _, h5, _, h6, _, h7, _⟩ := h
    exact .mk (by omega) (by omega) h4 (fun c hc => by have := h5 c hc; omega) (fun x hx => by have := h6 x hx; omega) (fun x hx => by have := (h7 x hx).1; omega) ih
end Go.Proofs.YtkcjkbnbblpomaaGreatDoor
