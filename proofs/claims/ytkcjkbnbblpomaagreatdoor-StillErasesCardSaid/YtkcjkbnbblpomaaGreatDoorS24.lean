/- Layer 9: the node with a number, by the program and by the reference. Layer 9: a tree of a view's nodes, with numbers: the program. -/
import Derived.Test.YtkcjkbnbblpomaaGreatDoorS23
import Derived.Test.YtkcjkbnbblpomaaGreatDoorS11
import Derived.Test.YtkcjkbnbblpomaaGreatDoorS12
import Derived.Test.YtkcjkbnbblpomaaGreatDoorS13
set_option linter.all false
namespace Go.Proofs.YtkcjkbnbblpomaaGreatDoor
open Go.RowKit
set_option maxRecDepth 100000
attribute [local irreducible] Go.Code.wpIn Go.wpListIn Go.Calls Gives Go.Exit.then Go.Exit.inBlock Done ObxE

def fndQ (g : World) (s : Option STree) (h : SnH) : Prop := (s = none ∧ h = zSn) ∨ (∃ u, s = some u ∧ SrR g u h)
def fndH (g : World) (bi bf : Nat) (id : Int) (s : Option STree) : HP := bagH (fun h : SnH => [pts bi [.int .i64 id] 3, pts bf (Enc.f h) 39]) (fndQ g s)
set_option maxHeartbeats 4000000 in
theorem fndY_any (bi bf : Nat) (B : Bs) (id : Int) (s : Option STree) (x : STree) (h : SnH) (L : List HP) (w : World) (hS : St B (fndH B.g bi bf id s :: L) w) (hr : SrR B.g x h) :
    Calls Tryz.prog 51 #[snV h, .pointer (some ⟨bi, 0, none⟩), .pointer (some ⟨bf, 0, none⟩)] w (Ret fun v w' => v = .bool (fndP id s x).1 ∧ St B (fndH B.g bi bf id (fndP id s x).2 :: L) w') := by
  have hr0 := hr
  obtain ⟨id', k, tag, text, cl, al, sl, kids, a1, m1, a2, m2, a3, m3, a4, m4, H, rfl, rfl, -⟩ := hr.split
  generalize hT : STree.mk id' k tag text cl al sl kids = T at *
  have hid : T.id = id' := by rw [← hT]; rfl
  obtain ⟨⟨id0, k0, tag0, text0, ⟨x1, x2, x3⟩, ⟨y1, y2, y3⟩, ⟨z1, z2, z3⟩, ⟨u1, u2, u3⟩⟩, hQ, hS1⟩ := St.bag hS .here
  clear hS
  have hS := hS1
  clear hS1
  rw [List.cons_append, List.cons_append, List.nil_append] at hS
  replace hS : St B (pts bi [.int .i64 id] 3 :: pts bf [.int .i64 id0, .int .i64 k0, .string tag0, .string text0, .slice x1 x2 x3, .slice y1 y2 y3, .slice z1 z2 z3, .slice u1 u2 u3] 39 :: L) w := hS
  show Calls Tryz.prog 51 #[.agg #[.int .i64 id', .int .i64 k, .string tag, .string text, .slice a1 cl.length m1, .slice a2 al.length m2, .slice a3 sl.length m3, .slice a4 H.length m4], .pointer (some ⟨bi, 0, none⟩), .pointer (some ⟨bf, 0, none⟩)] w _
  by_cases he : id' = id
  · have e1 : fndP id s T = (false, some T) := by simp [fndP, hid, he]
    rw [e1]
    refine enter Tryz.func51 rfl Tryz.ntmps51 rfl (fun a hk => ?_)
    (repeat' (first | (show wpListIn _ _ _ _ _ (_ :: _) _ _; first | (refine wx1 ?_; clear hk a; intro a hk) | (refine wx2 ?_ ?_ <;> (intro hp; clear hk a; intro a hk)) | (refine wx3 ?_; clear hk hS a; intro w b hS a hk) | (refine wx4 ?_; clear hk hS a; intro w hS a hk) | (refine wx5 ?_; clear hk hS a; intro w v hS a hk) | fail) | refine wx0 ?_ | (refine s_end hk ?_; clear hk a; intro a hk) | fail))
    refine done1 hk (h := ⟨rfl, ?_⟩)
    exact bagH.of (A := fun h : SnH => [pts bi [.int .i64 id] 3, pts bf (Enc.f h) 39]) (x := (id', k, tag, text, ⟨a1, cl.length, m1⟩, ⟨a2, al.length, m2⟩, ⟨a3, sl.length, m3⟩, ⟨a4, H.length, m4⟩)) (hS.sub (.cons (by repeat (first | exact At.here | apply At.there)) (.cons (by repeat (first | exact At.here | apply At.there)) (by first | exact Sub.refl | exact Sub.under .refl | exact Sub.under (Sub.under .refl))))) (.inr ⟨T, rfl, hr0⟩)
  · have e1 : fndP id s T = (true, s) := by simp [fndP, hid, he]
    rw [e1]
    refine enter Tryz.func51 rfl Tryz.ntmps51 rfl (fun a hk => ?_)
    (repeat' (first | (show wpListIn _ _ _ _ _ (_ :: _) _ _; first | (refine wx1 ?_; clear hk a; intro a hk) | (refine wx2 ?_ ?_ <;> (intro hp; clear hk a; intro a hk)) | (refine wx3 ?_; clear hk hS a; intro w b hS a hk) | (refine wx4 ?_; clear hk hS a; intro w hS a hk) | (refine wx5 ?_; clear hk hS a; intro w v hS a hk) | fail) | refine wx0 ?_ | (refine s_end hk ?_; clear hk a; intro a hk) | fail))
    refine done1 hk (h := ⟨rfl, ?_⟩)
    exact bagH.of (A := fun h : SnH => [pts bi [.int .i64 id] 3, pts bf (Enc.f h) 39]) (x := (id0, k0, tag0, text0, ⟨x1, x2, x3⟩, ⟨y1, y2, y3⟩, ⟨z1, z2, z3⟩, ⟨u1, u2, u3⟩)) (hS.sub (.cons (by repeat (first | exact At.here | apply At.there)) (.cons (by repeat (first | exact At.here | apply At.there)) (by first | exact Sub.refl | exact Sub.under .refl | exact Sub.under (Sub.under .refl))))) hQ
set_option maxHeartbeats 4000000 in
theorem find9_any (g : World) (t : STree) (h : SnH) (id : Int) (w0 : World) (hf : SFits t) (hc : (preT t).length ≤ 10000) (hg : Frz g w0) (hr : SrR g t h) :
    Calls Tryz.prog 19 #[snV h, .int .i64 id] w0 (Ret fun v w => ∃ hd, v = .tuple #[snV hd, .bool (fndT t id).isSome] ∧ (∀ u, fndT t id = some u → SrR g u hd) ∧ St w0 [] w) := by
  have hS : St ⟨g, w0⟩ [] w0 := St.reflG hg
  have hr0 := hr
  obtain ⟨id', k, tag, text, cl, al, sl, kids, a1, m1, a2, m2, a3, m3, a4, m4, H, rfl, rfl, -⟩ := hr.split
  generalize hT : STree.mk id' k tag text cl al sl kids = T at *
  show Calls Tryz.prog 19 #[.agg #[.int .i64 id', .int .i64 k, .string tag, .string text, .slice a1 cl.length m1, .slice a2 al.length m2, .slice a3 sl.length m3, .slice a4 H.length m4], .int .i64 id] w0 _
  refine enter Tryz.func19 rfl Tryz.ntmps19 rfl (fun a hk => ?_)
  refine wpIn_seq ?_; refine wpIn_region_lit ?_
  refine st_box hk hS ?_; clear hk hS a; intro w b2 hS a hk
  refine st_box hk hS ?_; clear hk hS a; intro w b3 hS a hk
  refine st_alloc hk hS ?_; clear hk hS a; intro w b4 hS a hk
  (repeat' (first | (show wpListIn _ _ _ _ _ (_ :: _) _ _; first | (refine wx1 ?_; clear hk a; intro a hk) | (refine wx2 ?_ ?_ <;> (intro hp; clear hk a; intro a hk)) | (refine wx3 ?_; clear hk hS a; intro w b hS a hk) | (refine wx4 ?_; clear hk hS a; intro w hS a hk) | (refine wx5 ?_; clear hk hS a; intro w v hS a hk) | fail) | refine wx0 ?_ | (refine s_end hk ?_; clear hk a; intro a hk) | fail))
  rename Nat => b6
  replace hS : St ⟨g, w0⟩ (fndH g b3 b6 id none :: [pts b4 [.int .i64 0, .int .i64 0, .string ⟨#[]⟩, .string ⟨#[]⟩, .slice none 0 0, .slice none 0 0, .slice none 0 0, .slice none 0 0] 39]) w := bagH.of (A := fun h : SnH => [pts b3 [.int .i64 id] 3, pts b6 (Enc.f h) 39]) (x := zSn) (L := [pts b4 [.int .i64 0, .int .i64 0, .string ⟨#[]⟩, .string ⟨#[]⟩, .slice none 0 0, .slice none 0 0, .slice none 0 0, .slice none 0 0] 39]) (hS.sub (by (repeat (first | exact Sub.nil | exact Sub.refl | refine Sub.cons (by (repeat (first | exact At.here | apply At.there))) ?_)))) (.inl ⟨rfl, rfl⟩)
  refine sg hk (g_callO hk (hf := by kernel_rfl) (hc := tall_any (fndH g b3 b6 id) (fndP id) (fun _ => 0) 100000 (fun s x => by omega) 51 [.pointer (some ⟨b3, 0, none⟩), .pointer (some ⟨b6, 0, none⟩)] (by kernel_rfl) ⟨g, w0⟩ (fun s x h L w _ hS hr => fndY_any b3 b6 ⟨g, w0⟩ id s x h L w hS hr) (SizeOf.sizeOf T + 1) T (id', k, tag, text, ⟨a1, cl.length, m1⟩, ⟨a2, al.length, m2⟩, ⟨a3, sl.length, m3⟩, ⟨a4, H.length, m4⟩) none _ _ (by omega) (by omega) hf hr0 hS) (h := ?_)); clear hk hS a; rintro _ w ⟨rfl, hS⟩ a hk
  rw [fndP_run] at hS hk
  have hfd : fndT T id = (preT T).find? (fun x => decide (x.id = id)) := rfl
  generalize hfs : (preT T).find? (fun x => decide (x.id = id)) = fs at *
  rw [hfd]
  cases fs with
  | none =>
    obtain ⟨⟨id0, k0, tag0, text0, ⟨x1, x2, x3⟩, ⟨y1, y2, y3⟩, ⟨z1, z2, z3⟩, ⟨u1, u2, u3⟩⟩, hQ, hS1⟩ := St.bag hS .here
    clear hS
    have hS := hS1
    clear hS1
    rw [List.cons_append, List.cons_append, List.nil_append] at hS
    replace hS : St ⟨g, w0⟩ (pts b3 [.int .i64 id] 3 :: pts b6 [.int .i64 id0, .int .i64 k0, .string tag0, .string text0, .slice x1 x2 x3, .slice y1 y2 y3, .slice z1 z2 z3, .slice u1 u2 u3] 39 :: [pts b4 [.int .i64 0, .int .i64 0, .string ⟨#[]⟩, .string ⟨#[]⟩, .slice none 0 0, .slice none 0 0, .slice none 0 0, .slice none 0 0] 39]) w := hS
    (repeat' (first | (show wpListIn _ _ _ _ _ (_ :: _) _ _; first | (refine wx1 ?_; clear hk a; intro a hk) | (refine wx2 ?_ ?_ <;> (intro hp; clear hk a; intro a hk)) | (refine wx3 ?_; clear hk hS a; intro w b hS a hk) | (refine wx4 ?_; clear hk hS a; intro w hS a hk) | (refine wx5 ?_; clear hk hS a; intro w v hS a hk) | fail) | refine wx0 ?_ | (refine s_end hk ?_; clear hk a; intro a hk) | fail))
    exact done2R hk rfl (.str hS (hT := aT rfl) (hs := zT rfl)) (.tmp rfl) (h := ⟨(id0, k0, tag0, text0, ⟨x1, x2, x3⟩, ⟨y1, y2, y3⟩, ⟨z1, z2, z3⟩, ⟨u1, u2, u3⟩), rfl, fun u e => (by cases e), hS.flat⟩)
  | some u =>
    obtain ⟨⟨id0, k0, tag0, text0, ⟨x1, x2, x3⟩, ⟨y1, y2, y3⟩, ⟨z1, z2, z3⟩, ⟨u1, u2, u3⟩⟩, hQ, hS1⟩ := St.bag hS .here
    clear hS
    have hS := hS1
    clear hS1
    rw [List.cons_append, List.cons_append, List.nil_append] at hS
    replace hS : St ⟨g, w0⟩ (pts b3 [.int .i64 id] 3 :: pts b6 [.int .i64 id0, .int .i64 k0, .string tag0, .string text0, .slice x1 x2 x3, .slice y1 y2 y3, .slice z1 z2 z3, .slice u1 u2 u3] 39 :: [pts b4 [.int .i64 0, .int .i64 0, .string ⟨#[]⟩, .string ⟨#[]⟩, .slice none 0 0, .slice none 0 0, .slice none 0 0, .slice none 0 0] 39]) w := hS
    have hR : SrR g u (id0, k0, tag0, text0, ⟨x1, x2, x3⟩, ⟨y1, y2, y3⟩, ⟨z1, z2, z3⟩, ⟨u1, u2, u3⟩) := by
      rcases hQ with ⟨e, -⟩ | ⟨v, e, hR⟩
      · cases e
      · cases e; exact hR
    (repeat' (first | (show wpListIn _ _ _ _ _ (_ :: _) _ _; first | (refine wx1 ?_; clear hk a; intro a hk) | (refine wx2 ?_ ?_ <;> (intro hp; clear hk a; intro a hk)) | (refine wx3 ?_; clear hk hS a; intro w b hS a hk) | (refine wx4 ?_; clear hk hS a; intro w hS a hk) | (refine wx5 ?_; clear hk hS a; intro w v hS a hk) | fail) | refine wx0 ?_ | (refine s_end hk ?_; clear hk a; intro a hk) | fail))
    exact done2R hk rfl (.str hS (hT := aT rfl) (hs := zT rfl)) (.tmp rfl) (h := ⟨(id0, k0, tag0, text0, ⟨x1, x2, x3⟩, ⟨y1, y2, y3⟩, ⟨z1, z2, z3⟩, ⟨u1, u2, u3⟩), rfl, fun v e => by cases e; exact hR, hS.flat⟩)

set_option maxHeartbeats 4000000 in
theorem rfind9_any (g : World) : ∀ (n : Nat) (t : STree) (h : SnH) (id : Int) (w0 : World), SizeOf.sizeOf t < n → SFits t → Frz g w0 → SrR g t h →
    Calls Tryz.prog 20 #[snV h, .int .i64 id] w0 (Ret fun v w => ∃ hd, v = .tuple #[snV hd, .bool (fndT t id).isSome] ∧ (∀ u, fndT t id = some u → SrR g u hd) ∧ St w0 [] w)
  | 0, _, _, _, _, hn, _, _, _ => by omega
  | n + 1, t, h, id, w0, hn, hf, hg, hr => by
    have ih := rfind9_any g n
    have hr0 := hr
    obtain ⟨id', k, tag, text, cl, al, sl, kids, a1, m1, a2, m2, a3, m3, a4, m4, H, rfl, rfl, c1, c2, c3, c4, hF⟩ := hr.split
    obtain ⟨l1, l2, l3, l4, l5⟩ := hf
    have hHk : H.length = kids.length := hF.1
    rw [fndT_mk]
    show Calls Tryz.prog 20 #[.agg #[.int .i64 id', .int .i64 k, .string tag, .string text, .slice a1 cl.length m1, .slice a2 al.length m2, .slice a3 sl.length m3, .slice a4 H.length m4], .int .i64 id] w0 _
    refine enter Tryz.func20 rfl Tryz.ntmps20 rfl (fun a hk => ?_); have hS := St.refl w0
    refine wpIn_seq ?_; refine wpIn_region_lit ?_
    refine st_box hk hS ?_; clear hk hS a; intro w b2 hS a hk
    refine st_alloc hk hS ?_; clear hk hS a; intro w b4 hS a hk
    by_cases he : id' = id
    · rw [if_pos he]
      (repeat' (first | (show wpListIn _ _ _ _ _ (_ :: _) _ _; first | (refine wx1 ?_; clear hk a; intro a hk) | (refine wx2 ?_ ?_ <;> (intro hp; clear hk a; intro a hk)) | (refine wx3 ?_; clear hk hS a; intro w b hS a hk) | (refine wx4 ?_; clear hk hS a; intro w hS a hk) | (refine wx5 ?_; clear hk hS a; intro w v hS a hk) | fail) | refine wx0 ?_ | (refine s_end hk ?_; clear hk a; intro a hk) | fail))
      exact done2R hk rfl (.str hS (hT := aT rfl) (hs := zT rfl)) (.tmp rfl) (h := ⟨(id', k, tag, text, ⟨a1, cl.length, m1⟩, ⟨a2, al.length, m2⟩, ⟨a3, sl.length, m3⟩, ⟨a4, H.length, m4⟩), rfl, fun u e => by cases e; exact hr0, hS.nil⟩)
    · rw [if_neg he]
      have c4' := c4.frz (hg.trans hS.frz)
      (repeat' (first | (show wpListIn _ _ _ _ _ (_ :: _) _ _; first | (refine wx1 ?_; clear hk a; intro a hk) | (refine wx2 ?_ ?_ <;> (intro hp; clear hk a; intro a hk)) | (refine wx3 ?_; clear hk hS a; intro w b hS a hk) | (refine wx4 ?_; clear hk hS a; intro w hS a hk) | (refine wx5 ?_; clear hk hS a; intro w v hS a hk) | fail) | refine wx0 ?_ | (refine s_end hk ?_; clear hk a; intro a hk) | fail))
      replace hk := Kn.kp [1, 4, 16, 17, 18] hk
      refine wp_for H.length (fun i _ => [(18, .int .i64 (i : Int))]) (fun _ _ => [pts b4 [.int .i64 0, .int .i64 0, .string ⟨#[]⟩, .string ⟨#[]⟩, .slice none 0 0, .slice none 0 0, .slice none 0 0, .slice none 0 0] 48]) (fun i _ => (kids.take i).findSome? (fun t => fndT t id) = none) () hk (by repeat (first | exact trivial | refine ⟨rfl, ?_⟩)) hS.sb rfl ?_
      clear hk hS a c4'
      rintro i - a w hi hk hS hA
      by_cases hil : i < H.length
      · obtain ⟨tk, htk⟩ : ∃ t, kids[i]? = some t := ⟨_, List.getElem?_eq_getElem (by omega)⟩
        obtain ⟨hd0, hx⟩ : ∃ x, H[i]? = some x := ⟨_, List.getElem?_eq_getElem hil⟩
        have hTr := hF.2 i tk hd0 htk hx
        have hmk := List.mem_of_getElem? htk
        have hfk := l5 tk hmk
        have hlt : SizeOf.sizeOf tk < n := by have := skid_lt (id := id') (k := k) (tag := tag) (text := text) (cl := cl) (at_ := al) (st := sl) hmk; omega
        have hv1 := c4.frz (hg.trans hS.frz)
        have hst : (kids.take (i + 1)).findSome? (fun t => fndT t id) = fndT tk id := by
          rw [take_snoc htk, List.findSome?_append, hA]
          simp
        obtain ⟨id0, k0, tag0, text0, ⟨x1, x2, x3⟩, ⟨y1, y2, y3⟩, ⟨z1, z2, z3⟩, ⟨u1, u2, u3⟩⟩ := hd0
        (repeat' (first | (show wpListIn _ _ _ _ _ (_ :: _) _ _; first | (refine wx1 ?_; clear hk a; intro a hk) | (refine wx2 ?_ ?_ <;> (intro hp; clear hk a; intro a hk)) | (refine wx3 ?_; clear hk hS a; intro w b hS a hk) | (refine wx4 ?_; clear hk hS a; intro w hS a hk) | (refine wx5 ?_; clear hk hS a; intro w v hS a hk) | fail) | refine wx0 ?_ | (refine s_end hk ?_; clear hk a; intro a hk) | fail))
        refine sg hk (g_callO hk (hf := by kernel_rfl) (hc := ih tk (id0, k0, tag0, text0, ⟨x1, x2, x3⟩, ⟨y1, y2, y3⟩, ⟨z1, z2, z3⟩, ⟨u1, u2, u3⟩) id _ hlt hfk (hg.trans hS.frz) hTr) (h := ?_)); clear hk a; rintro vr w ⟨⟨id2, k2, tag2, text2, ⟨x12, x22, x32⟩, ⟨y12, y22, y32⟩, ⟨z12, z22, z32⟩, ⟨u12, u22, u32⟩⟩, rfl, hR, hS1⟩ a hk; replace hS := hS.call hS1; clear hS1
        generalize hfk2 : fndT tk id = fk at *
        cases fk with
        | none =>
          (repeat' (first | (show wpListIn _ _ _ _ _ (_ :: _) _ _; first | (refine wx1 ?_; clear hk a; intro a hk) | (refine wx2 ?_ ?_ <;> (intro hp; clear hk a; intro a hk)) | (refine wx3 ?_; clear hk hS a; intro w b hS a hk) | (refine wx4 ?_; clear hk hS a; intro w hS a hk) | (refine wx5 ?_; clear hk hS a; intro w v hS a hk) | fail) | refine wx0 ?_ | (refine s_end hk ?_; clear hk a; intro a hk) | fail))
          exact ⟨hil, (), hk.sd, hS.sb, hst⟩
        | some u =>
          (repeat' (first | (show wpListIn _ _ _ _ _ (_ :: _) _ _; first | (refine wx1 ?_; clear hk a; intro a hk) | (refine wx2 ?_ ?_ <;> (intro hp; clear hk a; intro a hk)) | (refine wx3 ?_; clear hk hS a; intro w b hS a hk) | (refine wx4 ?_; clear hk hS a; intro w hS a hk) | (refine wx5 ?_; clear hk hS a; intro w v hS a hk) | fail) | refine wx0 ?_ | (refine s_end hk ?_; clear hk a; intro a hk) | fail))
          have hall : kids.findSome? (fun t => fndT t id) = some u := by
            conv => lhs; rw [← List.take_append_drop (i + 1) kids]
            rw [List.findSome?_append, hst]
            rfl
          rw [hall]
          exact done2R hk rfl (.str hS (hT := aT rfl) (hs := zT rfl)) (.tmp rfl) (h := ⟨(id2, k2, tag2, text2, ⟨x12, x22, x32⟩, ⟨y12, y22, y32⟩, ⟨z12, z22, z32⟩, ⟨u12, u22, u32⟩), rfl, fun v e => by cases e; exact hR _ rfl, hS.nil⟩)
      · have : i = kids.length := by omega
        subst this
        rw [List.take_length] at hA
        rw [hA]
        (repeat' (first | (show wpListIn _ _ _ _ _ (_ :: _) _ _; first | (refine wx1 ?_; clear hk a; intro a hk) | (refine wx2 ?_ ?_ <;> (intro hp; clear hk a; intro a hk)) | (refine wx3 ?_; clear hk hS a; intro w b hS a hk) | (refine wx4 ?_; clear hk hS a; intro w hS a hk) | (refine wx5 ?_; clear hk hS a; intro w v hS a hk) | fail) | refine wx0 ?_ | (refine s_end hk ?_; clear hk a; intro a hk) | fail))
        exact done2R hk rfl (.str hS (hT := aT rfl) (hs := zT rfl)) (.tmp rfl) (h := ⟨zSn, rfl, fun u e => (by cases e), hS.nil⟩)
end Go.Proofs.YtkcjkbnbblpomaaGreatDoor
namespace Go.Proofs.YtkcjkbnbblpomaaGreatDoor
open Go.RowKit
set_option maxRecDepth 100000
attribute [local irreducible] Go.Code.wpIn Go.wpListIn Go.Calls Gives Go.Exit.then Go.Exit.inBlock Done ObxE

theorem setS_any (l : List PrS) (k : ByteArray) (x : ByteArray) (v : Value) (w0 : World) (hv : SlT l v w0) (hl : l.length ≤ 1000) :
    Calls Tryz.prog 49 #[v, .string k, .string x] w0 (Ret fun v w => St w0 [OwT 98 (putF nmS (snapF nmS l) (k, x)) v] w) := by
  have hsl := snap_len nmS l
  refine enter Tryz.func49 rfl Tryz.ntmps49 rfl (fun a hk => ?_); have hS := St.refl w0
  (repeat' (first | (show wpListIn _ _ _ _ _ (_ :: _) _ _; first | (refine wx1 ?_; clear hk a; intro a hk) | (refine wx2 ?_ ?_ <;> (intro hp; clear hk a; intro a hk)) | (refine wx3 ?_; clear hk hS a; intro w b hS a hk) | (refine wx4 ?_; clear hk hS a; intro w hS a hk) | (refine wx5 ?_; clear hk hS a; intro w v hS a hk) | fail) | refine wx0 ?_ | (refine s_end hk ?_; clear hk a; intro a hk) | fail))
  refine sg hk (g_callO hk (hf := by kernel_rfl) (hc := ofS_any l v _ (hS.rdT hv) hl) (h := ?_)); clear hk a; rintro vs w hS1 a hk; replace hS := hS.call hS1; clear hS1
  (repeat' (first | (show wpListIn _ _ _ _ _ (_ :: _) _ _; first | (refine wx1 ?_; clear hk a; intro a hk) | (refine wx2 ?_ ?_ <;> (intro hp; clear hk a; intro a hk)) | (refine wx3 ?_; clear hk hS a; intro w b hS a hk) | (refine wx4 ?_; clear hk hS a; intro w hS a hk) | (refine wx5 ?_; clear hk hS a; intro w v hS a hk) | fail) | refine wx0 ?_ | (refine s_end hk ?_; clear hk a; intro a hk) | fail))
  refine sg hk (g_callO hk (hf := by kernel_rfl) (hc := putS_any (s := snapF nmS l) (v := vs) (L := []) ((k, x) : PrS) (hS.sub (by (repeat (first | exact Sub.nil | exact Sub.refl | refine Sub.cons (by (repeat (first | exact At.here | apply At.there))) ?_)))) (by omega) (snap_rises nmS l)) (h := ?_)); clear hk hS a; intro vr w hS a hk
  (repeat' (first | (show wpListIn _ _ _ _ _ (_ :: _) _ _; first | (refine wx1 ?_; clear hk a; intro a hk) | (refine wx2 ?_ ?_ <;> (intro hp; clear hk a; intro a hk)) | (refine wx3 ?_; clear hk hS a; intro w b hS a hk) | (refine wx4 ?_; clear hk hS a; intro w hS a hk) | (refine wx5 ?_; clear hk hS a; intro w v hS a hk) | fail) | refine wx0 ?_ | (refine s_end hk ?_; clear hk a; intro a hk) | fail))
  exact done1 hk (h := hS)

theorem styles9_any (l : List PrI) (v : Value) (w0 : World) (hv : SlT l v w0) (hl : l.length ≤ 1000) : Calls Tryz.prog 48 #[v] w0 (Ret fun v w => St w0 [OwT 103 l v] w) := by
  refine enter Tryz.func48 rfl Tryz.ntmps48 rfl (fun a hk => ?_); have hS := St.refl w0
  (repeat' (first | (show wpListIn _ _ _ _ _ (_ :: _) _ _; first | (refine wx1 ?_; clear hk a; intro a hk) | (refine wx2 ?_ ?_ <;> (intro hp; clear hk a; intro a hk)) | (refine wx3 ?_; clear hk hS a; intro w b hS a hk) | (refine wx4 ?_; clear hk hS a; intro w hS a hk) | (refine wx5 ?_; clear hk hS a; intro w v hS a hk) | fail) | refine wx0 ?_ | (refine s_end hk ?_; clear hk a; intro a hk) | fail))
  replace hS := hS.nilT 103 PrI
  replace hk := Kn.kp [3, 6, 7, 8] hk
  refine wp_for l.length (fun i v => [(3, v), (8, .int .i64 (i : Int))]) (fun i v => [OwT 103 (l.take i) v]) (fun _ _ => True) (.slice none 0 0) hk (by repeat (first | exact trivial | refine ⟨rfl, ?_⟩)) hS.sb trivial ?_
  clear hk hS a
  rintro i vo a w hi hk hS -
  by_cases hil : i < l.length
  · obtain ⟨⟨nm, x⟩, hx⟩ : ∃ x, l[i]? = some x := ⟨_, List.getElem?_eq_getElem hil⟩
    have hst : l.take (i + 1) = l.take i ++ [(nm, x)] := take_snoc hx
    have htl : (l.take i).length = i := by rw [List.length_take]; omega
    have hv1 := hS.rdT hv
    (repeat' (first | (show wpListIn _ _ _ _ _ (_ :: _) _ _; first | (refine wx1 ?_; clear hk a; intro a hk) | (refine wx2 ?_ ?_ <;> (intro hp; clear hk a; intro a hk)) | (refine wx3 ?_; clear hk hS a; intro w b hS a hk) | (refine wx4 ?_; clear hk hS a; intro w hS a hk) | (refine wx5 ?_; clear hk hS a; intro w v hS a hk) | fail) | refine wx0 ?_ | (refine s_end hk ?_; clear hk a; intro a hk) | fail))
    refine sg hk (g_bsT (xs := [((nm, x) : PrI)]) (m := 0) hk hS ?_ (hT := eT rfl) (hE := zT rfl) (hz := oT rfl)); clear hk hS a; intro w ve hS a hk
    (repeat' (first | (show wpListIn _ _ _ _ _ (_ :: _) _ _; first | (refine wx1 ?_; clear hk a; intro a hk) | (refine wx2 ?_ ?_ <;> (intro hp; clear hk a; intro a hk)) | (refine wx3 ?_; clear hk hS a; intro w b hS a hk) | (refine wx4 ?_; clear hk hS a; intro w hS a hk) | (refine wx5 ?_; clear hk hS a; intro w v hS a hk) | fail) | refine wx0 ?_ | (refine s_end hk ?_; clear hk a; intro a hk) | fail))
    rw [← hst] at hS
    exact ⟨hil, _, hk.sd, hS.sb, trivial⟩
  · have : i = l.length := by omega
    subst this
    rw [List.take_length] at hS
    (repeat' (first | (show wpListIn _ _ _ _ _ (_ :: _) _ _; first | (refine wx1 ?_; clear hk a; intro a hk) | (refine wx2 ?_ ?_ <;> (intro hp; clear hk a; intro a hk)) | (refine wx3 ?_; clear hk hS a; intro w b hS a hk) | (refine wx4 ?_; clear hk hS a; intro w hS a hk) | (refine wx5 ?_; clear hk hS a; intro w v hS a hk) | fail) | refine wx0 ?_ | (refine s_end hk ?_; clear hk a; intro a hk) | fail))
    exact done1 hk (h := hS.sb)

set_option maxHeartbeats 4000000 in
theorem from9_any : ∀ (n : Nat) (t : Tree) (h : NdH) (nx : Int) (w0 : World), SizeOf.sizeOf t < n → Fits t → 0 ≤ nx → nx + (cnt t : Int) ≤ 1000000 → TrR w0 t h →
    Calls Tryz.prog 17 #[ndV h, .int .i64 nx] w0 (Ret fun u w => ∃ hd, u = .tuple #[snV hd, .int .i64 (nx + (cnt t : Int))] ∧ St w0 [streeR (frm t nx) hd] w)
  | 0, _, _, _, _, hn, _, _, _, _ => by omega
  | n + 1, t, h, nx, w0, hn, hf, hn0, hn1, hr => by
    have ih := from9_any n
    obtain ⟨k, tag, key, text, cl, al, sl, e, lv, m, d, p, q, kids, a1, m1, a2, m2, a3, m3, a4, m4, H, rfl, rfl, c1, c2, c3, c4, hF⟩ := hr.split
    obtain ⟨l1, l2, l3, l4, l5⟩ := hf
    have hHk : H.length = kids.length := hF.1
    have hsl := snap_len nmI sl
    rw [cnt] at hn1 ⊢
    rw [frm]
    show Calls Tryz.prog 17 #[.agg #[.int .i64 k, .string tag, .string key, .string text, .slice a1 cl.length m1, .slice a2 al.length m2, .slice a3 sl.length m3, .int .i64 e, .int .i64 lv, .int .i64 m, .int .i64 d, .bool p, .bool q, .slice a4 H.length m4], .int .i64 nx] w0 _
    refine enter Tryz.func17 rfl Tryz.ntmps17 rfl (fun a hk => ?_); have hS := St.refl w0
    (repeat' (first | (show wpListIn _ _ _ _ _ (_ :: _) _ _; first | (refine wx1 ?_; clear hk a; intro a hk) | (refine wx2 ?_ ?_ <;> (intro hp; clear hk a; intro a hk)) | (refine wx3 ?_; clear hk hS a; intro w b hS a hk) | (refine wx4 ?_; clear hk hS a; intro w hS a hk) | (refine wx5 ?_; clear hk hS a; intro w v hS a hk) | fail) | refine wx0 ?_ | (refine s_end hk ?_; clear hk a; intro a hk) | fail))
    rename_i b2
    rename Nat => b4
    refine wp_drawn 18 mixed (by kernel_rfl) hk hS ?_; clear hk hS a
    (repeat' (first | (show ObxE _ _ _ _ _ _ _ _ _ (_ :: _) _ _ _; first | refine ox1 ?_ | (refine ox2 ?_ ?_ <;> intro hp) | fail) | fail))
    refine' obe_res (fun us a w hk hd hS => ?_) ?_; rotate_left; focus (have hk := Kn.vw hk (by repeat (first | exact VW.nil | apply VW.val rfl | apply VW.base rfl rfl | apply VW.res rfl | apply VW.upd rfl | apply VW.cpy rfl | apply VW.dep rfl | apply VW.fn rfl | apply VW.lnd rfl | apply VW.tak rfl)); exact v_bs0 (hT := eT rfl) (hE := zT rfl))
    (repeat' (first | (show ObxE _ _ _ _ _ _ _ _ _ (_ :: _) _ _ _; first | refine ox1 ?_ | (refine ox2 ?_ ?_ <;> intro hp) | fail) | fail))
    refine' obe_res (fun us a w hk hd hS => ?_) ?_; rotate_left; focus (have hk := Kn.vw hk (by repeat (first | exact VW.nil | apply VW.val rfl | apply VW.base rfl rfl | apply VW.res rfl | apply VW.upd rfl | apply VW.cpy rfl | apply VW.dep rfl | apply VW.fn rfl | apply VW.lnd rfl | apply VW.tak rfl)); exact v_appR (ys := cl) hk hd.1 (hT := eT rfl) (hTx := eT rfl) (hE := zT rfl) (hz := oT rfl) (hzs := rfl) (hs := hS.rdT c1) (hby := bT rfl) (hbytes := by omega) (h63 := by simp only [maxLen]; omega))
    (repeat' (first | (show ObxE _ _ _ _ _ _ _ _ _ (_ :: _) _ _ _; first | refine ox1 ?_ | (refine ox2 ?_ ?_ <;> intro hp) | fail) | fail))
    refine' obe_res (fun us a w hk hd hS => ?_) ?_; rotate_left; focus (have hk := Kn.vw hk (by repeat (first | exact VW.nil | apply VW.val rfl | apply VW.base rfl rfl | apply VW.res rfl | apply VW.upd rfl | apply VW.cpy rfl | apply VW.dep rfl | apply VW.fn rfl | apply VW.lnd rfl | apply VW.tak rfl)); exact g_callO hk (hf := by kernel_rfl) (hc := styles9_any sl _ _ (hS.rdT c3) (by omega)) (h := fun _ _ h => h))
    refine' obe_res (V := OwT 103 (snapF nmI sl)) (fun us a w hk hd hS => ?_) ?_
    · have hk := Kn.vw hk (by repeat (first | exact VW.nil | apply VW.val rfl | apply VW.base rfl rfl | apply VW.res rfl | apply VW.upd rfl | apply VW.cpy rfl | apply VW.dep rfl | apply VW.fn rfl | apply VW.lnd rfl | apply VW.tak rfl))
      have h1 : (OwT 103 sl (us 14)).rd w := hd.1
      simp only [Nat.zero_add, Nat.reduceAdd] at hk
      exact g_callO hk (hf := by kernel_rfl) (hc := ofI_any sl _ _ (OwT.rd h1) (by omega)) (h := fun _ _ h => h)
    refine' obe_fn [11, 15] (fun l => .agg #[.int .i64 nx, .int .i64 (min k 2), .string tag, .string text, l.getD 0 undef, .slice none 0 0, l.getD 1 undef, .slice none 0 0]) (fun us a w hk hd hS => ?_) ?_ (by intro k e; simp only [List.mem_cons, List.not_mem_nil, or_false] at e; rcases e with rfl | rfl; exact ⟨24, _, rfl, rfl⟩; exact ⟨28, _, rfl, rfl⟩)
    · have hk := Kn.vw hk (by repeat (first | exact VW.nil | apply VW.val rfl | apply VW.base rfl rfl | apply VW.res rfl | apply VW.upd rfl | apply VW.cpy rfl | apply VW.dep rfl | apply VW.fn rfl | apply VW.lnd rfl | apply VW.tak rfl))
      have h1 : (appH 9 cl (us 11)).rd w := hd.2.2.2.2.1
      have h2 : (OwT 103 (snapF nmI sl) (us 15)).rd w := hd.2.2.2.2.2.1
      obtain ⟨_, _, e1, _⟩ := (appH.rd h1).shape
      obtain ⟨_, _, e2, _⟩ := (OwT.rd h2).shape
      simp only [Nat.zero_add, Nat.reduceAdd] at hk
      simp only [List.map, List.getD_cons_zero, List.getD_cons_succ]
      rw [e1, e2] at hk ⊢
      exact g_build hk ⟨rfl, St.refl w⟩ (fsT rfl) (oT rfl)
    refine' obe_res (fun us a w hk hd hS => ?_) ?_; rotate_left; focus (have hk := Kn.vw hk (by repeat (first | exact VW.nil | apply VW.val rfl | apply VW.base rfl rfl | apply VW.res rfl | apply VW.upd rfl | apply VW.cpy rfl | apply VW.dep rfl | apply VW.fn rfl | apply VW.lnd rfl | apply VW.tak rfl)); exact v_alloc hk (oT rfl))
    refine obe_nil ⟨rfl, ?_⟩; intro us a w hk hS
    simp only [resE, List.cons_append, List.nil_append, Nat.zero_add, Nat.reduceAdd] at hS
    obtain ⟨b6, hb6, hS1⟩ := hS.ptv (by (repeat (first | exact At.here | apply At.there))); replace hS := hS1; clear hS1
    replace hk := Kn.kp [1, 2, 4, 6, 29] hk
    simp only [HV.of, List.map, List.getD_cons_zero, List.getD_cons_succ, Nat.zero_add, Nat.reduceAdd] at hk
    generalize us 11 = v24 at hS hk
    generalize us 15 = v28 at hS hk
    rw [hb6] at hk
    obtain ⟨a24, m24, rfl, _⟩ := (appH.rd (hS.rd (A := appH 9 cl v24) (by (repeat (first | exact At.here | apply At.there))))).shape
    obtain ⟨aov28, cv28, hshp, _⟩ := (OwT.rd (hS.rd (A := OwT 103 _ v28) (by (repeat (first | exact At.here | apply At.there))))).shape; subst hshp
    (repeat' (first | (show wpListIn _ _ _ _ _ (_ :: _) _ _; first | (refine wx1 ?_; clear hk a; intro a hk) | (refine wx2 ?_ ?_ <;> (intro hp; clear hk a; intro a hk)) | (refine wx3 ?_; clear hk hS a; intro w b hS a hk) | (refine wx4 ?_; clear hk hS a; intro w hS a hk) | (refine wx5 ?_; clear hk hS a; intro w v hS a hk) | fail) | refine wx0 ?_ | (refine s_end hk ?_; clear hk a; intro a hk) | fail))
    replace hS := hS.nilT 98 PrS
    replace hk := Kn.kp [1, 2, 4, 6, 31, 32, 33] hk
    refine wp_for al.length (fun i _ => [(33, .int .i64 (i : Int))]) (fun i v => [OwT 98 (snapF nmS (al.take i)) (.slice v.1 (snapF nmS (al.take i)).length v.2), pts b6 [.int .i64 nx, .int .i64 (min k 2), .string tag, .string text, .slice a24 cl.length m24, .slice v.1 (snapF nmS (al.take i)).length v.2, .slice aov28 (snapF nmI sl).length cv28, .slice none 0 0] 39, OwT 103 (snapF nmI sl) (.slice aov28 (snapF nmI sl).length cv28), appH 9 cl (.slice a24 cl.length m24), pts b2 [.int .i64 k, .string tag, .string key, .string text, .slice a1 cl.length m1, .slice a2 al.length m2, .slice a3 sl.length m3, .int .i64 e, .int .i64 lv, .int .i64 m, .int .i64 d, .bool p, .bool q, .slice a4 H.length m4] 31, pts b4 [.int .i64 0, .int .i64 0, .string ⟨#[]⟩, .string ⟨#[]⟩, .slice none 0 0, .slice none 0 0, .slice none 0 0, .slice none 0 0] 39]) (fun _ _ => True) ((none, 0) : Option Addr × Nat) hk (by repeat (first | exact trivial | refine ⟨rfl, ?_⟩)) hS.sb trivial ?_
    clear hk hS a
    rintro i ⟨ao, c⟩ a w hi hk hS -
    by_cases hil : i < al.length
    · obtain ⟨⟨nm, val⟩, hx⟩ : ∃ x, al[i]? = some x := ⟨_, List.getElem?_eq_getElem hil⟩
      have hst : putF nmS (snapF nmS (snapF nmS (al.take i))) (nm, val) = snapF nmS (al.take (i + 1)) := by rw [snap_snap, take_snoc hx, snap_snoc]
      have htl := snap_len nmS (al.take i)
      rw [List.length_take] at htl
      have hv1 := hS.rdT c2
      simp only at hS hk
      (repeat' (first | (show wpListIn _ _ _ _ _ (_ :: _) _ _; first | (refine wx1 ?_; clear hk a; intro a hk) | (refine wx2 ?_ ?_ <;> (intro hp; clear hk a; intro a hk)) | (refine wx3 ?_; clear hk hS a; intro w b hS a hk) | (refine wx4 ?_; clear hk hS a; intro w hS a hk) | (refine wx5 ?_; clear hk hS a; intro w v hS a hk) | fail) | refine wx0 ?_ | (refine s_end hk ?_; clear hk a; intro a hk) | fail))
      refine sg hk (g_callO hk (hf := by kernel_rfl) (hc := setS_any (snapF nmS (al.take i)) nm val _ _ (by first | exact St.rdT hS (by assumption) | exact OwT.rd (hS.rd (A := OwT _ _ _) (by (repeat (first | exact At.here | apply At.there)))) | assumption) (by omega)) (h := ?_)); clear hk a; rintro vn w hS1 a hk; replace hS := hS.call hS1; clear hS1
      rw [hst] at hS
      obtain ⟨aovn, cvn, hshp, _⟩ := (OwT.rd (hS.rd (A := OwT 98 _ vn) (by (repeat (first | exact At.here | apply At.there))))).shape; subst hshp
      (repeat' (first | (show wpListIn _ _ _ _ _ (_ :: _) _ _; first | (refine wx1 ?_; clear hk a; intro a hk) | (refine wx2 ?_ ?_ <;> (intro hp; clear hk a; intro a hk)) | (refine wx3 ?_; clear hk hS a; intro w b hS a hk) | (refine wx4 ?_; clear hk hS a; intro w hS a hk) | (refine wx5 ?_; clear hk hS a; intro w v hS a hk) | fail) | refine wx0 ?_ | (refine s_end hk ?_; clear hk a; intro a hk) | fail))
      exact ⟨hil, (aovn, cvn), hk.sd, hS.sub (by (repeat (first | exact Sub.nil | exact Sub.refl | refine Sub.cons (by (repeat (first | exact At.here | apply At.there))) ?_))), trivial⟩
    · have : i = al.length := by omega
      subst this
      rw [List.take_length] at hS
      simp only at hS hk
      have c4' := hS.rdT c4
      have hF' := hS.rdFo hF
      (repeat' (first | (show wpListIn _ _ _ _ _ (_ :: _) _ _; first | (refine wx1 ?_; clear hk a; intro a hk) | (refine wx2 ?_ ?_ <;> (intro hp; clear hk a; intro a hk)) | (refine wx3 ?_; clear hk hS a; intro w b hS a hk) | (refine wx4 ?_; clear hk hS a; intro w hS a hk) | (refine wx5 ?_; clear hk hS a; intro w v hS a hk) | fail) | refine wx0 ?_ | (refine s_end hk ?_; clear hk a; intro a hk) | fail))
      replace hS := sforR.nil (hS.nilT 39 SnH)
      replace hk := Kn.kp [1, 4, 6, 49, 50, 51] hk
      rw [show nx + 1 = nx + 1 + (cntL (kids.take 0) : Int) by simp [cntL]] at hk
      refine wp_for H.length (fun j _ => [(1, .int .i64 (nx + 1 + (cntL (kids.take j) : Int))), (51, .int .i64 (j : Int))]) (fun j v => [sforR (frmL (kids.take j) (nx + 1)) (v.2 : List SnH), OwT 39 v.2 (.slice v.1.1 j v.1.2), pts b6 [.int .i64 nx, .int .i64 (min k 2), .string tag, .string text, .slice a24 cl.length m24, .slice ao (snapF nmS al).length c, .slice aov28 (snapF nmI sl).length cv28, .slice v.1.1 j v.1.2] 39, OwT 98 (snapF nmS al) (.slice ao (snapF nmS al).length c), OwT 103 (snapF nmI sl) (.slice aov28 (snapF nmI sl).length cv28), appH 9 cl (.slice a24 cl.length m24), pts b4 [.int .i64 0, .int .i64 0, .string ⟨#[]⟩, .string ⟨#[]⟩, .slice none 0 0, .slice none 0 0, .slice none 0 0, .slice none 0 0] 39]) (fun _ _ => True) (((none, 0), []) : (Option Addr × Nat) × List SnH) hk (by repeat (first | exact trivial | refine ⟨rfl, ?_⟩)) (hS.sub (by (repeat (first | exact Sub.nil | exact Sub.refl | refine Sub.cons (by (repeat (first | exact At.here | apply At.there))) ?_)))) trivial ?_
      clear hk hS a
      rintro j ⟨⟨ak, ck⟩, H'⟩ a w hj hk hS -
      have hFH := hS.soR .here
      have hkl : (frmL (kids.take j) (nx + 1)).length = j := by rw [frmL_len, List.length_take, ← hF.1]; omega
      have hHl : H'.length = j := by rw [hFH.1, hkl]
      by_cases hjl : j < H.length
      · obtain ⟨tk, htk⟩ : ∃ t, kids[j]? = some t := ⟨_, List.getElem?_eq_getElem (by rw [← hF.1]; exact hjl)⟩
        obtain ⟨hd0, hx⟩ : ∃ x, H[j]? = some x := ⟨_, List.getElem?_eq_getElem hjl⟩
        have hTr := hF.2 j tk hd0 htk hx
        have hfk := l5 tk (List.mem_of_getElem? htk)
        have hlt : SizeOf.sizeOf tk < n := by have := kid_lt (k := k) (tag := tag) (key := key) (text := text) (cl := cl) (at_ := al) (st := sl) (o := (e, lv, m, d, p, q)) (List.mem_of_getElem? htk); omega
        have hct : cntL (kids.take (j + 1)) = cntL (kids.take j) + cnt tk := by rw [take_snoc htk, cntL_app]; simp [cntL]
        have hcl : cntL (kids.take (j + 1)) ≤ cntL kids := by
          have e1 := cntL_app (kids.take (j + 1)) (kids.drop (j + 1))
          rw [List.take_append_drop] at e1
          omega
        have hst : frmL (kids.take (j + 1)) (nx + 1) = frmL (kids.take j) (nx + 1) ++ [frm tk (nx + 1 + (cntL (kids.take j) : Int))] := by rw [take_snoc htk, frmL_snoc]
        have c4'' := hS.rdT c4
        simp only at hS hk
        obtain ⟨k', tag', key', text', ⟨x1, x2, x3⟩, ⟨y1, y2, y3⟩, ⟨z1, z2, z3⟩, ⟨e', lv', m', d', p', q'⟩, ⟨u1, u2, u3⟩⟩ := hd0
        have hnx : nx + 1 + (cntL (kids.take (j + 1)) : Int) = nx + 1 + (cntL (kids.take j) : Int) + (cnt tk : Int) := by rw [hct]; omega
        generalize hN : nx + 1 + (cntL (kids.take j) : Int) = N at hk hst hnx
        (repeat' (first | (show wpListIn _ _ _ _ _ (_ :: _) _ _; first | (refine wx1 ?_; clear hk a; intro a hk) | (refine wx2 ?_ ?_ <;> (intro hp; clear hk a; intro a hk)) | (refine wx3 ?_; clear hk hS a; intro w b hS a hk) | (refine wx4 ?_; clear hk hS a; intro w hS a hk) | (refine wx5 ?_; clear hk hS a; intro w v hS a hk) | fail) | refine wx0 ?_ | (refine s_end hk ?_; clear hk a; intro a hk) | fail))
        refine sg hk (g_callO hk (hf := by kernel_rfl) (hc := ih tk (k', tag', key', text', ⟨x1, x2, x3⟩, ⟨y1, y2, y3⟩, ⟨z1, z2, z3⟩, (e', lv', m', d', p', q'), ⟨u1, u2, u3⟩) N _ hlt hfk (by omega) (by omega) (hS.rdTr hTr)) (h := ?_)); clear hk a; rintro vr w ⟨hd1, rfl, hS1⟩ a hk; replace hS := hS.call hS1; clear hS1
        rw [List.cons_append, List.nil_append] at hS
        rw [← hnx] at hk
        obtain ⟨id2, k2, tag2, text2, ⟨x12, x22, x32⟩, ⟨y12, y22, y32⟩, ⟨z12, z22, z32⟩, ⟨u12, u22, u32⟩⟩ := hd1
        (repeat' (first | (show wpListIn _ _ _ _ _ (_ :: _) _ _; first | (refine wx1 ?_; clear hk a; intro a hk) | (refine wx2 ?_ ?_ <;> (intro hp; clear hk a; intro a hk)) | (refine wx3 ?_; clear hk hS a; intro w b hS a hk) | (refine wx4 ?_; clear hk hS a; intro w hS a hk) | (refine wx5 ?_; clear hk hS a; intro w v hS a hk) | fail) | refine wx0 ?_ | (refine s_end hk ?_; clear hk a; intro a hk) | fail))
        refine sg hk (g_bsT (xs := [((id2, k2, tag2, text2, ⟨x12, x22, x32⟩, ⟨y12, y22, y32⟩, ⟨z12, z22, z32⟩, ⟨u12, u22, u32⟩) : SnH)]) (m := 0) hk hS ?_ (hT := eT rfl) (hE := zT rfl) (hz := oT rfl)); clear hk hS a; intro w ve hS a hk
        (repeat' (first | (show wpListIn _ _ _ _ _ (_ :: _) _ _; first | (refine wx1 ?_; clear hk a; intro a hk) | (refine wx2 ?_ ?_ <;> (intro hp; clear hk a; intro a hk)) | (refine wx3 ?_; clear hk hS a; intro w b hS a hk) | (refine wx4 ?_; clear hk hS a; intro w hS a hk) | (refine wx5 ?_; clear hk hS a; intro w v hS a hk) | fail) | refine wx0 ?_ | (refine s_end hk ?_; clear hk a; intro a hk) | fail))
        generalize hHD : ((id2, k2, tag2, text2, ⟨x12, x22, x32⟩, ⟨y12, y22, y32⟩, ⟨z12, z22, z32⟩, ⟨u12, u22, u32⟩) : SnH) = hd1 at hS
        have hl1 : (H' ++ [hd1]).length = j + 1 := by rw [List.length_append, hHl]; rfl
        rename Value => vn
        obtain ⟨aovn, cvn, hshp, _⟩ := (OwT.rd (hS.rd (A := OwT 39 _ vn) (by (repeat (first | exact At.here | apply At.there))))).shape; subst hshp
        rw [hl1] at hS hk
        (repeat' (first | (show wpListIn _ _ _ _ _ (_ :: _) _ _; first | (refine wx1 ?_; clear hk a; intro a hk) | (refine wx2 ?_ ?_ <;> (intro hp; clear hk a; intro a hk)) | (refine wx3 ?_; clear hk hS a; intro w b hS a hk) | (refine wx4 ?_; clear hk hS a; intro w hS a hk) | (refine wx5 ?_; clear hk hS a; intro w v hS a hk) | fail) | refine wx0 ?_ | (refine s_end hk ?_; clear hk a; intro a hk) | fail))
        have hS1 := sforR.snoc (L := [OwT 39 (H' ++ [hd1]) (.slice aovn (j + 1) cvn), pts b6 [.int .i64 nx, .int .i64 (min k 2), .string tag, .string text, .slice a24 cl.length m24, .slice ao (snapF nmS al).length c, .slice aov28 (snapF nmI sl).length cv28, .slice aovn (j + 1) cvn] 39, OwT 98 (snapF nmS al) (.slice ao (snapF nmS al).length c), OwT 103 (snapF nmI sl) (.slice aov28 (snapF nmI sl).length cv28), appH 9 cl (.slice a24 cl.length m24), pts b4 [.int .i64 0, .int .i64 0, .string ⟨#[]⟩, .string ⟨#[]⟩, .slice none 0 0, .slice none 0 0, .slice none 0 0, .slice none 0 0] 39])  (ts := frmL (kids.take j) (nx + 1)) (H := H') (t := frm tk N) (h := hd1) (hS.sub (by (repeat (first | exact Sub.nil | exact Sub.refl | refine Sub.cons (by (repeat (first | exact At.here | apply At.there))) ?_))))
        rw [← hst] at hS1
        exact ⟨hjl, ((aovn, cvn), H' ++ [hd1]), hk.sd, hS1, trivial⟩
      · have hjj : j = kids.length := by have := hF.1; omega
        subst hjj
        rw [List.take_length] at hS hk
        simp only at hS hk
        have hnn : nx + 1 + (cntL kids : Int) = nx + ((cntL kids + 1 : Nat) : Int) := by omega
        rw [hnn] at hk
        (repeat' (first | (show wpListIn _ _ _ _ _ (_ :: _) _ _; first | (refine wx1 ?_; clear hk a; intro a hk) | (refine wx2 ?_ ?_ <;> (intro hp; clear hk a; intro a hk)) | (refine wx3 ?_; clear hk hS a; intro w b hS a hk) | (refine wx4 ?_; clear hk hS a; intro w hS a hk) | (refine wx5 ?_; clear hk hS a; intro w v hS a hk) | fail) | refine wx0 ?_ | (refine s_end hk ?_; clear hk a; intro a hk) | fail))
        exact done2R hk rfl (.str hS (hT := aT rfl) (hs := zT rfl)) (.tmp rfl) (h := ⟨(nx, min k 2, tag, text, ⟨a24, cl.length, m24⟩, ⟨ao, (snapF nmS al).length, c⟩, ⟨aov28, (snapF nmI sl).length, cv28⟩, ⟨ak, kids.length, ck⟩), rfl, streeR.of (A1 := appH 9 cl (.slice a24 cl.length m24)) (A2 := OwT 98 (snapF nmS al) (.slice ao (snapF nmS al).length c)) (A3 := OwT 103 (snapF nmI sl) (.slice aov28 (snapF nmI sl).length cv28)) (A4 := OwT 39 H' (.slice ak kids.length ck)) (hS.sub (by (repeat (first | exact Sub.nil | exact Sub.refl | refine Sub.cons (by (repeat (first | exact At.here | apply At.there))) ?_))))⟩)
end Go.Proofs.YtkcjkbnbblpomaaGreatDoor
