/- Layer 9: without what is reserved: the program. -/
import Derived.Test.YtkcjkbnbblpomaaGreatDoorS30
import Derived.Test.YtkcjkbnbblpomaaGreatDoorS23
import Derived.Test.YtkcjkbnbblpomaaGreatDoorS17
set_option linter.all false
namespace Go.Proofs.YtkcjkbnbblpomaaGreatDoor
open Go.RowKit
set_option maxRecDepth 100000
attribute [local irreducible] Go.Code.wpIn Go.wpListIn Go.Calls Gives Go.Exit.then Go.Exit.inBlock Done ObxE

def getS (l : List PrS) (k : ByteArray) : ByteArray := ((lastF nmS l k).getD (k, (⟨#[]⟩ : ByteArray))).2
theorem getS_any (l : List PrS) (k : ByteArray) (v : Value) (w0 : World) (hv : SlT l v w0) (hl : l.length ≤ 1000) :
    Calls Tryz.prog 53 #[v, .string k] w0 (Ret fun v w => v = .tuple #[.string (getS l k), .bool (lastF nmS l k).isSome] ∧ St w0 [] w) := by
  have hsl := snap_len nmS l
  have hsr := snap_rises nmS l
  unfold getS
  rw [← snap_last_eq nmS l k]
  refine enter Tryz.func53 rfl Tryz.ntmps53 rfl (fun a hk => ?_); have hS := St.refl w0
  (repeat' (first | (show wpListIn _ _ _ _ _ (_ :: _) _ _; first | (refine wx1 ?_; clear hk a; intro a hk) | (refine wx2 ?_ ?_ <;> (intro hp; clear hk a; intro a hk)) | (refine wx3 ?_; clear hk hS a; intro w b hS a hk) | (refine wx4 ?_; clear hk hS a; intro w hS a hk) | (refine wx5 ?_; clear hk hS a; intro w v hS a hk) | fail) | refine wx0 ?_ | (refine s_end hk ?_; clear hk a; intro a hk) | fail))
  refine sg hk (g_callO hk (hf := by kernel_rfl) (hc := ofS_any l v _ (hS.rdT hv) hl) (h := ?_)); clear hk a; rintro vs w hS1 a hk; replace hS := hS.call hS1; clear hS1
  generalize snapF nmS l = S at *
  (repeat' (first | (show wpListIn _ _ _ _ _ (_ :: _) _ _; first | (refine wx1 ?_; clear hk a; intro a hk) | (refine wx2 ?_ ?_ <;> (intro hp; clear hk a; intro a hk)) | (refine wx3 ?_; clear hk hS a; intro w b hS a hk) | (refine wx4 ?_; clear hk hS a; intro w hS a hk) | (refine wx5 ?_; clear hk hS a; intro w v hS a hk) | fail) | refine wx0 ?_ | (refine s_end hk ?_; clear hk a; intro a hk) | fail))
  refine sg hk (g_callO hk (hf := by kernel_rfl) (hc := whereS_any S k vs _ (by first | exact St.rdT hS (by assumption) | exact OwT.rd (hS.rd (A := OwT _ _ _) (by (repeat (first | exact At.here | apply At.there)))) | assumption) (by omega) hsr) (h := ?_)); clear hk a; rintro vr w ⟨n, f, rfl, hF, hS1⟩ a hk; replace hS := hS.call hS1; clear hS1
  have hlast := found_last nmS hsr hF
  cases f with
  | true =>
    obtain ⟨hn, _⟩ := hF.2.2.2.1 rfl
    rw [if_pos rfl, List.getElem?_eq_getElem hn] at hlast
    rw [hlast]
    (repeat' (first | (show wpListIn _ _ _ _ _ (_ :: _) _ _; first | (refine wx1 ?_; clear hk a; intro a hk) | (refine wx2 ?_ ?_ <;> (intro hp; clear hk a; intro a hk)) | (refine wx3 ?_; clear hk hS a; intro w b hS a hk) | (refine wx4 ?_; clear hk hS a; intro w hS a hk) | (refine wx5 ?_; clear hk hS a; intro w v hS a hk) | fail) | refine wx0 ?_ | (refine s_end hk ?_; clear hk a; intro a hk) | fail))
    exact done2 hk (h := ⟨rfl, hS.nil⟩)
  | false =>
    rw [if_neg (by decide)] at hlast
    rw [hlast]
    (repeat' (first | (show wpListIn _ _ _ _ _ (_ :: _) _ _; first | (refine wx1 ?_; clear hk a; intro a hk) | (refine wx2 ?_ ?_ <;> (intro hp; clear hk a; intro a hk)) | (refine wx3 ?_; clear hk hS a; intro w b hS a hk) | (refine wx4 ?_; clear hk hS a; intro w hS a hk) | (refine wx5 ?_; clear hk hS a; intro w v hS a hk) | fail) | refine wx0 ?_ | (refine s_end hk ?_; clear hk a; intro a hk) | fail))
    exact done2 hk (h := ⟨rfl, hS.nil⟩)

theorem last_any (l : List PrS) (k : ByteArray) : (lastF nmS l k).isSome = l.any (fun x => decide (x.1 = k)) := by
  unfold lastF
  rw [Bool.eq_iff_iff, List.find?_isSome, List.any_eq_true]
  constructor
  · rintro ⟨x, hx, h⟩; exact ⟨x, by simpa using hx, by simpa [nmS] using h⟩
  · rintro ⟨x, hx, h⟩; exact ⟨x, by simpa using hx, by simpa [nmS] using h⟩
abbrev zTr : STree := .mk 0 0 ⟨#[]⟩ ⟨#[]⟩ [] [] [] []
def erO (t : STree) : STree := if t.ghost = true then zTr else erT t
set_option maxHeartbeats 4000000 in
theorem erase9_any : ∀ (n : Nat) (t : STree) (h : SnH) (w0 : World), SizeOf.sizeOf t < n → SFits t → SrR w0 t h →
    Calls Tryz.prog 25 #[snV h] w0 (Ret fun u w => ∃ hd, u = .tuple #[snV hd, .bool (!t.ghost)] ∧ St w0 [streeR (erO t) hd] w)
  | 0, _, _, _, hn, _, _ => by omega
  | n + 1, t, h, w0, hn, hf, hr => by
    have ih := erase9_any n
    obtain ⟨id, k, tag, text, cl, al, sl, kids, a1, m1, a2, m2, a3, m3, a4, m4, H, rfl, rfl, c1, c2, c3, c4, hF⟩ := hr.split
    obtain ⟨l1, l2, l3, l4, l5⟩ := hf
    have hHk : H.length = kids.length := hF.1
    have hla := last_any al ghS
    have hgt : ∀ w0 h1, Calls Tryz.prog 53 #[.slice a2 al.length m2, .string ⟨#[116, 45, 103, 104, 111, 115, 116]⟩] w0 (Ret fun v w => v = .tuple #[.string (getS al ghS), .bool (ghB al)] ∧ St w0 [] w) := fun w0 h1 => by
      have := getS_any al ghS (.slice a2 al.length m2) w0 h1 (by omega)
      rw [hla] at this
      exact this
    show Calls Tryz.prog 25 #[.agg #[.int .i64 id, .int .i64 k, .string tag, .string text, .slice a1 cl.length m1, .slice a2 al.length m2, .slice a3 sl.length m3, .slice a4 H.length m4]] w0 _
    have hgg : (STree.mk id k tag text cl al sl kids).ghost = ghB al := rfl
    unfold erO
    rw [hgg]
    generalize hg : ghB al = gb at *
    refine enter Tryz.func25 rfl Tryz.ntmps25 rfl (fun a hk => ?_); have hS := St.refl w0
    refine wpIn_seq ?_; refine wpIn_region_lit ?_
    refine st_box hk hS ?_; clear hk hS a; intro w b1 hS a hk
    refine st_alloc hk hS ?_; clear hk hS a; intro w b2 hS a hk
    (repeat' (first | (show wpListIn _ _ _ _ _ (_ :: _) _ _; first | (refine wx1 ?_; clear hk a; intro a hk) | (refine wx2 ?_ ?_ <;> (intro hp; clear hk a; intro a hk)) | (refine wx3 ?_; clear hk hS a; intro w b hS a hk) | (refine wx4 ?_; clear hk hS a; intro w hS a hk) | (refine wx5 ?_; clear hk hS a; intro w v hS a hk) | fail) | refine wx0 ?_ | (refine s_end hk ?_; clear hk a; intro a hk) | fail))
    refine sg hk (g_callO hk (hf := by kernel_rfl) (hc := hgt _ (hS.rdT c2)) (h := ?_)); clear hk a; rintro _ w ⟨rfl, hS1⟩ a hk; replace hS := hS.call0 hS1; clear hS1
    cases gb with
    | true =>
      (repeat' (first | (show wpListIn _ _ _ _ _ (_ :: _) _ _; first | (refine wx1 ?_; clear hk a; intro a hk) | (refine wx2 ?_ ?_ <;> (intro hp; clear hk a; intro a hk)) | (refine wx3 ?_; clear hk hS a; intro w b hS a hk) | (refine wx4 ?_; clear hk hS a; intro w hS a hk) | (refine wx5 ?_; clear hk hS a; intro w v hS a hk) | fail) | refine wx0 ?_ | (refine s_end hk ?_; clear hk a; intro a hk) | fail))
      refine done2R hk rfl (.str hS (hT := aT rfl) (hs := zT rfl)) (.tmp rfl) (h := ⟨zSn, rfl, ?_⟩)
      rw [if_pos rfl]
      exact sleaf 0 0 ⟨#[]⟩ ⟨#[]⟩ hS.nil
    | false =>
      rw [if_neg (by decide), erT]
      (repeat' (first | (show wpListIn _ _ _ _ _ (_ :: _) _ _; first | (refine wx1 ?_; clear hk a; intro a hk) | (refine wx2 ?_ ?_ <;> (intro hp; clear hk a; intro a hk)) | (refine wx3 ?_; clear hk hS a; intro w b hS a hk) | (refine wx4 ?_; clear hk hS a; intro w hS a hk) | (refine wx5 ?_; clear hk hS a; intro w v hS a hk) | fail) | refine wx0 ?_ | (refine s_end hk ?_; clear hk a; intro a hk) | fail))
      refine wp_drawn 10 mixed (by kernel_rfl) hk hS ?_; clear hk hS a
      (repeat' (first | (show ObxE _ _ _ _ _ _ _ _ _ (_ :: _) _ _ _; first | refine ox1 ?_ | (refine ox2 ?_ ?_ <;> intro hp) | fail) | fail))
      refine' obe_res (fun us a w hk hd hS => ?_) ?_; rotate_left; focus (have hk := Kn.vw hk (by repeat (first | exact VW.nil | apply VW.val rfl | apply VW.base rfl rfl | apply VW.res rfl | apply VW.upd rfl | apply VW.cpy rfl | apply VW.dep rfl | apply VW.fn rfl | apply VW.lnd rfl | apply VW.tak rfl)); exact g_callO hk (hf := by kernel_rfl) (hc := minec_any cl _ _ (hS.rdT c1) (by omega)) (h := fun _ _ h => h))
      (repeat' (first | (show ObxE _ _ _ _ _ _ _ _ _ (_ :: _) _ _ _; first | refine ox1 ?_ | (refine ox2 ?_ ?_ <;> intro hp) | fail) | fail))
      refine' obe_res (fun us a w hk hd hS => ?_) ?_; rotate_left; focus (have hk := Kn.vw hk (by repeat (first | exact VW.nil | apply VW.val rfl | apply VW.base rfl rfl | apply VW.res rfl | apply VW.upd rfl | apply VW.cpy rfl | apply VW.dep rfl | apply VW.fn rfl | apply VW.lnd rfl | apply VW.tak rfl)); exact g_callO hk (hf := by kernel_rfl) (hc := mineS_any al _ _ (hS.rdT c2) (by omega)) (h := fun _ _ h => h))
      (repeat' (first | (show ObxE _ _ _ _ _ _ _ _ _ (_ :: _) _ _ _; first | refine ox1 ?_ | (refine ox2 ?_ ?_ <;> intro hp) | fail) | fail))
      refine' obe_res (fun us a w hk hd hS => ?_) ?_; rotate_left; focus (have hk := Kn.vw hk (by repeat (first | exact VW.nil | apply VW.val rfl | apply VW.base rfl rfl | apply VW.res rfl | apply VW.upd rfl | apply VW.cpy rfl | apply VW.dep rfl | apply VW.fn rfl | apply VW.lnd rfl | apply VW.tak rfl)); exact g_callO hk (hf := by kernel_rfl) (hc := mineI_any sl _ _ (hS.rdT c3) (by omega)) (h := fun _ _ h => h))
      (repeat' (first | (show ObxE _ _ _ _ _ _ _ _ _ (_ :: _) _ _ _; first | refine ox1 ?_ | (refine ox2 ?_ ?_ <;> intro hp) | fail) | fail))
      refine obe_nil ⟨rfl, ?_⟩; intro us a w hk hS
      simp only [resE, List.cons_append, List.nil_append, Nat.zero_add, Nat.reduceAdd] at hS
      replace hk := Kn.kp [1, 2, 6, 23, 26, 29, 30] hk
      simp only [HV.of, Nat.zero_add, Nat.reduceAdd] at hk
      generalize us 2 = v23 at hS hk
      generalize us 5 = v26 at hS hk
      generalize us 8 = v29 at hS hk
      obtain ⟨aov23, cv23, hshp, _⟩ := (OwT.rd (hS.rd (A := OwT 9 _ v23) (by (repeat (first | exact At.here | apply At.there))))).shape; subst hshp
      obtain ⟨aov26, cv26, hshp, _⟩ := (OwT.rd (hS.rd (A := OwT 98 _ v26) (by (repeat (first | exact At.here | apply At.there))))).shape; subst hshp
      obtain ⟨aov29, cv29, hshp, _⟩ := (OwT.rd (hS.rd (A := OwT 103 _ v29) (by (repeat (first | exact At.here | apply At.there))))).shape; subst hshp
      have c4' := hS.rdT c4
      (repeat' (first | (show wpListIn _ _ _ _ _ (_ :: _) _ _; first | (refine wx1 ?_; clear hk a; intro a hk) | (refine wx2 ?_ ?_ <;> (intro hp; clear hk a; intro a hk)) | (refine wx3 ?_; clear hk hS a; intro w b hS a hk) | (refine wx4 ?_; clear hk hS a; intro w hS a hk) | (refine wx5 ?_; clear hk hS a; intro w v hS a hk) | fail) | refine wx0 ?_ | (refine s_end hk ?_; clear hk a; intro a hk) | fail))
      replace hS := sforR.nil (hS.nilT 39 SnH)
      replace hk := Kn.kp [1, 2, 34, 35, 36] hk
      refine wp_for H.length (fun i _ => [(36, .int .i64 (i : Int))]) (fun i v => [sforR (erL (kids.take i)) (v.2 : List SnH), OwT 39 v.2 (.slice v.1.1 v.2.length v.1.2), pts b1 [.int .i64 id, .int .i64 k, .string tag, .string text, .slice aov23 (mineC cl).length cv23, .slice aov26 (mineS al).length cv26, .slice aov29 (mineI sl).length cv29, .slice v.1.1 v.2.length v.1.2] 39, OwT 9 (mineC cl) (.slice aov23 (mineC cl).length cv23), OwT 98 (mineS al) (.slice aov26 (mineS al).length cv26), OwT 103 (mineI sl) (.slice aov29 (mineI sl).length cv29), pts b2 [.int .i64 0, .int .i64 0, .string ⟨#[]⟩, .string ⟨#[]⟩, .slice none 0 0, .slice none 0 0, .slice none 0 0, .slice none 0 0] 39]) (fun _ _ => True) (((none, 0), []) : (Option Addr × Nat) × List SnH) hk (by repeat (first | exact trivial | refine ⟨rfl, ?_⟩)) (hS.sub (by (repeat (first | exact Sub.nil | exact Sub.refl | refine Sub.cons (by (repeat (first | exact At.here | apply At.there))) ?_)))) trivial ?_
      clear hk hS a
      rintro j ⟨⟨ak, ck⟩, H'⟩ a w hj hk hS -
      have hFH := hS.soR .here
      have hkl := erL_len (kids.take j)
      rw [List.length_take] at hkl
      have hHl : H'.length = (erL (kids.take j)).length := hFH.1
      by_cases hjl : j < H.length
      · obtain ⟨tk, htk⟩ : ∃ t, kids[j]? = some t := ⟨_, List.getElem?_eq_getElem (by rw [← hF.1]; exact hjl)⟩
        obtain ⟨hd0, hx⟩ : ∃ x, H[j]? = some x := ⟨_, List.getElem?_eq_getElem hjl⟩
        have hTr := hF.2 j tk hd0 htk hx
        have hfk := l5 tk (List.mem_of_getElem? htk)
        have hlt : SizeOf.sizeOf tk < n := by have := skid_lt (id := id) (k := k) (tag := tag) (text := text) (cl := cl) (at_ := al) (st := sl) (List.mem_of_getElem? htk); omega
        have hst : erL (kids.take (j + 1)) = if tk.ghost = true then erL (kids.take j) else erL (kids.take j) ++ [erT tk] := by rw [take_snoc htk, erL_snoc]
        have c4'' := hS.rdT c4
        simp only at hS hk
        obtain ⟨id', k', tag', text', ⟨x1, x2, x3⟩, ⟨y1, y2, y3⟩, ⟨z1, z2, z3⟩, ⟨u1, u2, u3⟩⟩ := hd0
        (repeat' (first | (show wpListIn _ _ _ _ _ (_ :: _) _ _; first | (refine wx1 ?_; clear hk a; intro a hk) | (refine wx2 ?_ ?_ <;> (intro hp; clear hk a; intro a hk)) | (refine wx3 ?_; clear hk hS a; intro w b hS a hk) | (refine wx4 ?_; clear hk hS a; intro w hS a hk) | (refine wx5 ?_; clear hk hS a; intro w v hS a hk) | fail) | refine wx0 ?_ | (refine s_end hk ?_; clear hk a; intro a hk) | fail))
        refine sg hk (g_callO hk (hf := by kernel_rfl) (hc := ih tk (id', k', tag', text', ⟨x1, x2, x3⟩, ⟨y1, y2, y3⟩, ⟨z1, z2, z3⟩, ⟨u1, u2, u3⟩) _ hlt hfk (hS.rdSr hTr)) (h := ?_)); clear hk a; rintro vr w ⟨⟨id2, k2, tag2, text2, ⟨x12, x22, x32⟩, ⟨y12, y22, y32⟩, ⟨z12, z22, z32⟩, ⟨u12, u22, u32⟩⟩, rfl, hS1⟩ a hk; replace hS := hS.call hS1; clear hS1
        rw [List.cons_append, List.nil_append] at hS
        unfold erO at hS
        generalize hgk : tk.ghost = gk at *
        cases gk with
        | true =>
          rw [if_pos rfl] at hst
          rw [← hst] at hS
          (repeat' (first | (show wpListIn _ _ _ _ _ (_ :: _) _ _; first | (refine wx1 ?_; clear hk a; intro a hk) | (refine wx2 ?_ ?_ <;> (intro hp; clear hk a; intro a hk)) | (refine wx3 ?_; clear hk hS a; intro w b hS a hk) | (refine wx4 ?_; clear hk hS a; intro w hS a hk) | (refine wx5 ?_; clear hk hS a; intro w v hS a hk) | fail) | refine wx0 ?_ | (refine s_end hk ?_; clear hk a; intro a hk) | fail))
          exact ⟨hjl, ((ak, ck), H'), hk.sd, hS.sub (by (repeat (first | exact Sub.nil | exact Sub.refl | refine Sub.cons (by (repeat (first | exact At.here | apply At.there))) ?_))), trivial⟩
        | false =>
          rw [if_neg (by decide)] at hst hS
          (repeat' (first | (show wpListIn _ _ _ _ _ (_ :: _) _ _; first | (refine wx1 ?_; clear hk a; intro a hk) | (refine wx2 ?_ ?_ <;> (intro hp; clear hk a; intro a hk)) | (refine wx3 ?_; clear hk hS a; intro w b hS a hk) | (refine wx4 ?_; clear hk hS a; intro w hS a hk) | (refine wx5 ?_; clear hk hS a; intro w v hS a hk) | fail) | refine wx0 ?_ | (refine s_end hk ?_; clear hk a; intro a hk) | fail))
          refine sg hk (g_bsT (xs := [((id2, k2, tag2, text2, ⟨x12, x22, x32⟩, ⟨y12, y22, y32⟩, ⟨z12, z22, z32⟩, ⟨u12, u22, u32⟩) : SnH)]) (m := 0) hk hS ?_ (hT := eT rfl) (hE := zT rfl) (hz := oT rfl)); clear hk hS a; intro w ve hS a hk
          (repeat' (first | (show wpListIn _ _ _ _ _ (_ :: _) _ _; first | (refine wx1 ?_; clear hk a; intro a hk) | (refine wx2 ?_ ?_ <;> (intro hp; clear hk a; intro a hk)) | (refine wx3 ?_; clear hk hS a; intro w b hS a hk) | (refine wx4 ?_; clear hk hS a; intro w hS a hk) | (refine wx5 ?_; clear hk hS a; intro w v hS a hk) | fail) | refine wx0 ?_ | (refine s_end hk ?_; clear hk a; intro a hk) | fail))
          generalize hHD : ((id2, k2, tag2, text2, ⟨x12, x22, x32⟩, ⟨y12, y22, y32⟩, ⟨z12, z22, z32⟩, ⟨u12, u22, u32⟩) : SnH) = hd1 at hS
          rename Value => vn
          obtain ⟨aovn, cvn, hshp, _⟩ := (OwT.rd (hS.rd (A := OwT 39 _ vn) (by (repeat (first | exact At.here | apply At.there))))).shape; subst hshp
          (repeat' (first | (show wpListIn _ _ _ _ _ (_ :: _) _ _; first | (refine wx1 ?_; clear hk a; intro a hk) | (refine wx2 ?_ ?_ <;> (intro hp; clear hk a; intro a hk)) | (refine wx3 ?_; clear hk hS a; intro w b hS a hk) | (refine wx4 ?_; clear hk hS a; intro w hS a hk) | (refine wx5 ?_; clear hk hS a; intro w v hS a hk) | fail) | refine wx0 ?_ | (refine s_end hk ?_; clear hk a; intro a hk) | fail))
          have hS1 := sforR.snoc (L := [OwT 39 (H' ++ [hd1]) (.slice aovn (H' ++ [hd1]).length cvn), pts b1 [.int .i64 id, .int .i64 k, .string tag, .string text, .slice aov23 (mineC cl).length cv23, .slice aov26 (mineS al).length cv26, .slice aov29 (mineI sl).length cv29, .slice aovn (H' ++ [hd1]).length cvn] 39, OwT 9 (mineC cl) (.slice aov23 (mineC cl).length cv23), OwT 98 (mineS al) (.slice aov26 (mineS al).length cv26), OwT 103 (mineI sl) (.slice aov29 (mineI sl).length cv29), pts b2 [.int .i64 0, .int .i64 0, .string ⟨#[]⟩, .string ⟨#[]⟩, .slice none 0 0, .slice none 0 0, .slice none 0 0, .slice none 0 0] 39])  (ts := erL (kids.take j)) (H := H') (t := erT tk) (h := hd1) (hS.sub (by (repeat (first | exact Sub.nil | exact Sub.refl | refine Sub.cons (by (repeat (first | exact At.here | apply At.there))) ?_))))
          rw [← hst] at hS1
          exact ⟨hjl, ((aovn, cvn), H' ++ [hd1]), hk.sd, hS1, trivial⟩
      · have hjj : j = kids.length := by have := hF.1; omega
        subst hjj
        rw [List.take_length] at hS
        simp only at hS hk
        (repeat' (first | (show wpListIn _ _ _ _ _ (_ :: _) _ _; first | (refine wx1 ?_; clear hk a; intro a hk) | (refine wx2 ?_ ?_ <;> (intro hp; clear hk a; intro a hk)) | (refine wx3 ?_; clear hk hS a; intro w b hS a hk) | (refine wx4 ?_; clear hk hS a; intro w hS a hk) | (refine wx5 ?_; clear hk hS a; intro w v hS a hk) | fail) | refine wx0 ?_ | (refine s_end hk ?_; clear hk a; intro a hk) | fail))
        exact done2R hk rfl (.str hS (hT := aT rfl) (hs := zT rfl)) (.tmp rfl) (h := ⟨(id, k, tag, text, ⟨aov23, (mineC cl).length, cv23⟩, ⟨aov26, (mineS al).length, cv26⟩, ⟨aov29, (mineI sl).length, cv29⟩, ⟨ak, H'.length, ck⟩), rfl, streeR.of (A1 := OwT 9 (mineC cl) (.slice aov23 (mineC cl).length cv23)) (A2 := OwT 98 (mineS al) (.slice aov26 (mineS al).length cv26)) (A3 := OwT 103 (mineI sl) (.slice aov29 (mineI sl).length cv29)) (A4 := OwT 39 H' (.slice ak H'.length ck)) (hS.sub (by (repeat (first | exact Sub.nil | exact Sub.refl | refine Sub.cons (by (repeat (first | exact At.here | apply At.there))) ?_))))⟩)
end Go.Proofs.YtkcjkbnbblpomaaGreatDoor
