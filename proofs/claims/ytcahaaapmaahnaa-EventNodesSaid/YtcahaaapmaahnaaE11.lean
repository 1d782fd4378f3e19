/- Layer 28: which nodes of a tree fit a selector of one part: the program. Layer 33: who has a point, of no entries. Layer 33: who is called at a node: the program. A list gone through backwards, by a range over a function. -/
import Derived.Test.YtcahaaapmaahnaaE09
import Derived.Test.YtcahaaapmaahnaaE10
import Derived.Test.YtcahaaapmaahnaaE06
set_option linter.all false
namespace Go.Proofs.Ytcahaaapmaahnaa
open Go.RowKit
set_option maxRecDepth 100000
attribute [local irreducible] Go.Code.wpIn Go.wpListIn Go.Calls Gives Go.Exit.then Go.Exit.inBlock Done ObxE

abbrev prt (pt : ByteArray) : ByteArray × Hd × Hd × Bool := (pt, ⟨none, 0, 0⟩, ⟨none, 0, 0⟩, false)
def walkH (bw : Nat) (asel : Option Addr) (csel : Nat) (out : List Int) : HP := bagH (fun hd : Hd => [pts bw [.slice asel 1 csel, hd.v] 72, OwT 3 out hd.v]) (fun _ => True)
theorem fitT_mk (pt : ByteArray) (id k : Int) (tag text : ByteArray) (cl : List ByteArray) (al : List (ByteArray × ByteArray)) (sl : List (ByteArray × Int)) (kids : List STree) :
    fitT pt (.mk id k tag text cl al sl kids) = (if fitB pt k tag then [id] else []) ++ fitL pt kids := by rw [fitT]; rfl
theorem fitL_take (pt : ByteArray) (l : List STree) (i : Nat) : (fitL pt (l.take i)).length ≤ (fitL pt l).length := by
  have e := congrArg List.length (fitL_app pt (l.take i) (l.drop i))
  rw [List.take_append_drop, List.length_append] at e
  omega
set_option maxHeartbeats 8000000 in
theorem down33 (pt : ByteArray) (bw : Nat) (asel : Option Addr) (csel : Nat) (B : Bs) (hsel : SlT [prt pt] (.slice asel 1 csel) B.g) : ∀ (n : Nat) (t : STree) (h : SnH) (out : List Int) (pv av : Value) (ab : Bool) (L : List HP) (w : World),
    SizeOf.sizeOf t < n → PlT t → out.length + (fitT pt t).length ≤ 1000 → SrR B.g t h → St B (walkH bw asel csel out :: OwT 4 [ab] av :: L) w →
    Calls Try.prog 21 #[.pointer (some ⟨bw, 0, none⟩), snV h, pv, av] w (Ret fun _ w' => St B (walkH bw asel csel (out ++ fitT pt t) :: OwT 4 [ab] av :: L) w')
  | 0, _, _, _, _, _, _, _, _, hn, _, _, _, _ => by omega
  | n + 1, t, h, out, pv, av, ab, L, w, hn, hpl, hfl, hr, hS => by
    have ih := down33 pt bw asel csel B hsel n
    obtain ⟨id, k, tag, text, cl, al, sl, kids, a1, m1, a2, m2, a3, m3, a4, m4, H, rfl, rfl, c1, c2, c3, c4, hF⟩ := hr.split
    have hkp : kids.length ≤ 1000 ∧ ∀ t ∈ kids, PlT t := by
      cases hpl with
      | mk h1 h2 h3 => exact ⟨h1, h3⟩
    have hHk : H.length = kids.length := hF.1
    rw [fitT_mk] at hfl ⊢
    rw [List.length_append] at hfl
    obtain ⟨aa, ca, rfl, _⟩ := (OwT.rd (hS.rd (A := OwT 4 [ab] av) (.there .here))).shape
    obtain ⟨⟨x1, x2, x3⟩, -, hS1⟩ := St.bag hS .here
    clear hS
    have hS := hS1
    clear hS1
    rw [List.cons_append, List.cons_append, List.nil_append] at hS
    replace hS : St B (pts bw [.slice asel 1 csel, .slice x1 x2 x3] 72 :: OwT 3 out (.slice x1 x2 x3) :: OwT 4 [ab] (.slice aa 1 ca) :: L) w := hS
    show Calls Try.prog 21 #[.pointer (some ⟨bw, 0, none⟩), .agg #[.int .i64 id, .int .i64 k, .string tag, .string text, .slice a1 cl.length m1, .slice a2 al.length m2, .slice a3 sl.length m3, .slice a4 H.length m4], pv, .slice aa 1 ca] w _
    refine enter Try.func21 rfl Try.ntmps21 rfl (fun a hk => ?_)
    refine wpIn_seq ?_; refine wpIn_region_lit ?_
    refine st_box hk hS ?_; clear hk hS a; intro w b5 hS a hk
    have hse := hsel.frz hS.frz
    (repeat' (first | (show wpListIn _ _ _ _ _ (_ :: _) _ _; first | (refine wx1 ?_; clear hk a; intro a hk) | (refine wx2 ?_ ?_ <;> (intro hp; clear hk a; intro a hk)) | (refine wx3 ?_; clear hk hS a; intro w b hS a hk) | (refine wx4 ?_; clear hk hS a; intro w hS a hk) | (refine wx5 ?_; clear hk hS a; intro w v hS a hk) | fail) | refine wx0 ?_ | (refine s_end hk ?_; clear hk a; intro a hk) | fail))
    refine sg hk (g_mkT (z := false) (m := 1) hk hS ?_ (hT := eT rfl) (hE := zT rfl) (hz := oT rfl) (hby := bT rfl) (hm := by simp only [maxLen]; omega) (hbytes := by omega)); clear hk hS a; intro w v8 hS a hk
    replace hS : St B (OwT 4 [false] v8 :: pts b5 [.int .i64 id, .int .i64 k, .string tag, .string text, .slice a1 cl.length m1, .slice a2 al.length m2, .slice a3 sl.length m3, .slice a4 H.length m4] 37 :: pts bw [.slice asel 1 csel, .slice x1 x2 x3] 72 :: OwT 3 out (.slice x1 x2 x3) :: OwT 4 [ab] (.slice aa 1 ca) :: L) w := hS
    obtain ⟨a8, c8, rfl, _⟩ := (OwT.rd (hS.rd (A := OwT 4 [false] v8) .here)).shape
    replace hS : St B (OwT 4 [false] (.slice a8 1 c8) :: pts b5 [.int .i64 id, .int .i64 k, .string tag, .string text, .slice a1 cl.length m1, .slice a2 al.length m2, .slice a3 sl.length m3, .slice a4 H.length m4] 37 :: pts bw [.slice asel 1 csel, .slice x1 x2 x3] 72 :: OwT 3 out (.slice x1 x2 x3) :: OwT 4 [ab] (.slice aa 1 ca) :: L) w := hS
    have hse := hsel.frz hS.frz
    (repeat' (first | (show wpListIn _ _ _ _ _ (_ :: _) _ _; first | (refine wx1 ?_; clear hk a; intro a hk) | (refine wx2 ?_ ?_ <;> (intro hp; clear hk a; intro a hk)) | (refine wx3 ?_; clear hk hS a; intro w b hS a hk) | (refine wx4 ?_; clear hk hS a; intro w hS a hk) | (refine wx5 ?_; clear hk hS a; intro w v hS a hk) | fail) | refine wx0 ?_ | (refine s_end hk ?_; clear hk a; intro a hk) | fail))
    clear hse
    simp only [List.length_cons, List.length_nil, Nat.zero_add] at hk
    replace hk := Kn.kp [0, 2, 3, 5, 8, 27, 28, 29] hk
    refine wp_for 1 (fun i _ => [(29, .int .i64 (i : Int))]) (fun i _ => OwT 4 [if i = 0 then false else decide (fitB pt k tag)] (.slice a8 1 c8) :: pts b5 [.int .i64 id, .int .i64 k, .string tag, .string text, .slice a1 cl.length m1, .slice a2 al.length m2, .slice a3 sl.length m3, .slice a4 H.length m4] 37 :: pts bw [.slice asel 1 csel, .slice x1 x2 x3] 72 :: OwT 3 out (.slice x1 x2 x3) :: OwT 4 [ab] (.slice aa 1 ca) :: L) (fun _ _ => True) () hk (by repeat (first | exact trivial | refine ⟨rfl, ?_⟩)) hS trivial ?_
    clear hk hS a
    rintro i - a w hi hk hS -
    have hse := hsel.frz hS.frz
    by_cases hil : i < 1
    · obtain rfl : i = 0 := by omega
      rw [if_pos rfl] at hS
      (repeat' (first | (show wpListIn _ _ _ _ _ (_ :: _) _ _; first | (refine wx1 ?_; clear hk a; intro a hk) | (refine wx2 ?_ ?_ <;> (intro hp; clear hk a; intro a hk)) | (refine wx3 ?_; clear hk hS a; intro w b hS a hk) | (refine wx4 ?_; clear hk hS a; intro w hS a hk) | (refine wx5 ?_; clear hk hS a; intro w v hS a hk) | fail) | refine wx0 ?_ | (refine s_end hk ?_; clear hk a; intro a hk) | fail))
      refine sg hk (g_callO hk (hf := by kernel_rfl) (hc := fits33 pt id k tag text a1 a2 a3 a4 cl.length al.length sl.length H.length m1 m2 m3 m4 _) (h := ?_)); clear hk a; rintro _ w ⟨rfl, hS1⟩ a hk; replace hS := hS.call0 hS1; clear hS1
      generalize hfb : decide (fitB pt k tag) = fb at *
      (repeat' (first | (show wpListIn _ _ _ _ _ (_ :: _) _ _; first | (refine wx1 ?_; clear hk a; intro a hk) | (refine wx2 ?_ ?_ <;> (intro hp; clear hk a; intro a hk)) | (refine wx3 ?_; clear hk hS a; intro w b hS a hk) | (refine wx4 ?_; clear hk hS a; intro w hS a hk) | (refine wx5 ?_; clear hk hS a; intro w v hS a hk) | fail) | refine wx0 ?_ | (refine s_end hk ?_; clear hk a; intro a hk) | fail))
      refine ⟨by omega, (), hk.sd, ?_, trivial⟩
      rw [if_neg (by omega)]
      exact hS.sub (.cons (by repeat (first | exact At.here | apply At.there)) (.cons (by repeat (first | exact At.here | apply At.there)) (.cons (by repeat (first | exact At.here | apply At.there)) (.cons (by repeat (first | exact At.here | apply At.there)) (.cons (by repeat (first | exact At.here | apply At.there)) (by repeat (first | exact Sub.refl | apply Sub.under)))))))
    · obtain rfl : i = 1 := by omega
      rw [if_neg (by omega)] at hS
      clear hse
      generalize hfb : decide (fitB pt k tag) = fb at *
      have hif : (if fitB pt k tag then [id] else []) = if fb = true then [id] else [] := by
        rw [← hfb]
        by_cases h : fitB pt k tag
        · rw [if_pos h, if_pos (by simpa using h)]
        · rw [if_neg h, if_neg (by simpa using h)]
      rw [hif] at hfl ⊢
      have hl1 : ([fb] : List Bool).length = 1 := rfl
      (repeat' (first | (show wpListIn _ _ _ _ _ (_ :: _) _ _; first | (refine wx1 ?_; clear hk a; intro a hk) | (refine wx2 ?_ ?_ <;> (intro hp; clear hk a; intro a hk)) | (refine wx3 ?_; clear hk hS a; intro w b hS a hk) | (refine wx4 ?_; clear hk hS a; intro w hS a hk) | (refine wx5 ?_; clear hk hS a; intro w v hS a hk) | fail) | refine wx0 ?_ | (refine s_end hk ?_; clear hk a; intro a hk) | fail))
      replace hk : Kn [] 115 a [(0, .pointer (some ⟨bw, 0, none⟩)), (3, .slice aa 1 ca), (5, .pointer (some ⟨b5, 0, none⟩)), (8, .slice a8 1 c8), (70, .bool fb)] := Kn.kp [0, 3, 5, 8, 70] hk
      clear hl1
      refine wp_joinE (fun a w => Kn [] 115 a [(0, .pointer (some ⟨bw, 0, none⟩)), (3, .slice aa 1 ca), (5, .pointer (some ⟨b5, 0, none⟩)), (8, .slice a8 1 c8)] ∧ ∃ (y1 : Option Addr) (y2 y3 : Nat), St B (OwT 4 [fb] (.slice a8 1 c8) :: pts b5 [.int .i64 id, .int .i64 k, .string tag, .string text, .slice a1 cl.length m1, .slice a2 al.length m2, .slice a3 sl.length m3, .slice a4 H.length m4] 37 :: pts bw [.slice asel 1 csel, .slice y1 y2 y3] 72 :: OwT 3 (out ++ if fb = true then [id] else []) (.slice y1 y2 y3) :: OwT 4 [ab] (.slice aa 1 ca) :: L) w) ?_ ?_
      · clear hk hS a
        rintro a w ⟨hk, y1, y2, y3, hS⟩
        generalize hou : (out ++ if fb = true then [id] else []) = ou at *
        have houl : ou.length = out.length + (if fb = true then [id] else []).length := by rw [← hou, List.length_append]
        (repeat' (first | (show wpListIn _ _ _ _ _ (_ :: _) _ _; first | (refine wx1 ?_; clear hk a; intro a hk) | (refine wx2 ?_ ?_ <;> (intro hp; clear hk a; intro a hk)) | (refine wx3 ?_; clear hk hS a; intro w b hS a hk) | (refine wx4 ?_; clear hk hS a; intro w hS a hk) | (refine wx5 ?_; clear hk hS a; intro w v hS a hk) | fail) | refine wx0 ?_ | (refine s_end hk ?_; clear hk a; intro a hk) | fail))
        refine sg hk (g_callO hk (hf := by kernel_rfl) (hc := cloneB33 [ab] _ _ (OwT.rd (hS.rd (A := OwT 4 [ab] (.slice aa 1 ca)) (by (repeat (first | exact At.here | apply At.there))))) (by simp)) (h := ?_)); clear hk a; rintro v13 w hS1 a hk; replace hS := hS.call hS1; clear hS1
        rw [List.cons_append, List.nil_append] at hS
        obtain ⟨a13, c13, rfl, _⟩ := (OwT.rd (hS.rd (A := OwT 4 [ab] v13) .here)).shape
        (repeat' (first | (show wpListIn _ _ _ _ _ (_ :: _) _ _; first | (refine wx1 ?_; clear hk a; intro a hk) | (refine wx2 ?_ ?_ <;> (intro hp; clear hk a; intro a hk)) | (refine wx3 ?_; clear hk hS a; intro w b hS a hk) | (refine wx4 ?_; clear hk hS a; intro w hS a hk) | (refine wx5 ?_; clear hk hS a; intro w v hS a hk) | fail) | refine wx0 ?_ | (refine s_end hk ?_; clear hk a; intro a hk) | fail))
        simp only [List.length_cons, List.length_nil, Nat.zero_add] at hk
        replace hk := Kn.kp [0, 5, 8, 13, 84, 85, 86] hk
        refine wp_for 1 (fun i _ => [(86, .int .i64 (i : Int))]) (fun i _ => OwT 4 [if i = 0 then ab else (ab || fb)] (.slice a13 1 c13) :: OwT 4 [fb] (.slice a8 1 c8) :: pts b5 [.int .i64 id, .int .i64 k, .string tag, .string text, .slice a1 cl.length m1, .slice a2 al.length m2, .slice a3 sl.length m3, .slice a4 H.length m4] 37 :: pts bw [.slice asel 1 csel, .slice y1 y2 y3] 72 :: OwT 3 ou (.slice y1 y2 y3) :: OwT 4 [ab] (.slice aa 1 ca) :: L) (fun _ _ => True) () hk (by repeat (first | exact trivial | refine ⟨rfl, ?_⟩)) hS trivial ?_
        clear hk hS a
        rintro i - a w hi hk hS -
        by_cases hil : i < 1
        · obtain rfl : i = 0 := by omega
          rw [if_pos rfl] at hS
          cases ab with
          | true =>
            (repeat' (first | (show wpListIn _ _ _ _ _ (_ :: _) _ _; first | (refine wx1 ?_; clear hk a; intro a hk) | (refine wx2 ?_ ?_ <;> (intro hp; clear hk a; intro a hk)) | (refine wx3 ?_; clear hk hS a; intro w b hS a hk) | (refine wx4 ?_; clear hk hS a; intro w hS a hk) | (refine wx5 ?_; clear hk hS a; intro w v hS a hk) | fail) | refine wx0 ?_ | (refine s_end hk ?_; clear hk a; intro a hk) | fail))
            refine ⟨by omega, (), hk.sd, ?_, trivial⟩
            rw [if_neg (by omega)]
            exact hS.sub (.cons (by repeat (first | exact At.here | apply At.there)) (.cons (by repeat (first | exact At.here | apply At.there)) (.cons (by repeat (first | exact At.here | apply At.there)) (.cons (by repeat (first | exact At.here | apply At.there)) (.cons (by repeat (first | exact At.here | apply At.there)) (.cons (by repeat (first | exact At.here | apply At.there)) (by repeat (first | exact Sub.refl | apply Sub.under))))))))
          | false =>
            (repeat' (first | (show wpListIn _ _ _ _ _ (_ :: _) _ _; first | (refine wx1 ?_; clear hk a; intro a hk) | (refine wx2 ?_ ?_ <;> (intro hp; clear hk a; intro a hk)) | (refine wx3 ?_; clear hk hS a; intro w b hS a hk) | (refine wx4 ?_; clear hk hS a; intro w hS a hk) | (refine wx5 ?_; clear hk hS a; intro w v hS a hk) | fail) | refine wx0 ?_ | (refine s_end hk ?_; clear hk a; intro a hk) | fail))
            refine ⟨by omega, (), hk.sd, ?_, trivial⟩
            rw [if_neg (by omega)]
            exact hS.sub (.cons (by repeat (first | exact At.here | apply At.there)) (.cons (by repeat (first | exact At.here | apply At.there)) (.cons (by repeat (first | exact At.here | apply At.there)) (.cons (by repeat (first | exact At.here | apply At.there)) (.cons (by repeat (first | exact At.here | apply At.there)) (.cons (by repeat (first | exact At.here | apply At.there)) (by repeat (first | exact Sub.refl | apply Sub.under))))))))
        · obtain rfl : i = 1 := by omega
          rw [if_neg (by omega)] at hS
          have c4' := c4.frz hS.frz
          (repeat' (first | (show wpListIn _ _ _ _ _ (_ :: _) _ _; first | (refine wx1 ?_; clear hk a; intro a hk) | (refine wx2 ?_ ?_ <;> (intro hp; clear hk a; intro a hk)) | (refine wx3 ?_; clear hk hS a; intro w b hS a hk) | (refine wx4 ?_; clear hk hS a; intro w hS a hk) | (refine wx5 ?_; clear hk hS a; intro w v hS a hk) | fail) | refine wx0 ?_ | (refine s_end hk ?_; clear hk a; intro a hk) | fail))
          replace hk := Kn.kp [0, 8, 13, 103, 104, 105] hk
          generalize hab2 : (ab || fb) = ab2 at *
          have hS1 : St B (walkH bw asel csel (ou ++ fitL pt (kids.take 0)) :: OwT 4 [ab2] (.slice a13 1 c13) :: OwT 4 [ab] (.slice aa 1 ca) :: L) w := by
            rw [List.take_zero, fitL, List.append_nil]
            exact bagH.of (A := fun hd : Hd => [pts bw [.slice asel 1 csel, hd.v] 72, OwT 3 ou hd.v]) (x := ⟨y1, y2, y3⟩) (hS.sub (.cons (by repeat (first | exact At.here | apply At.there)) (.cons (by repeat (first | exact At.here | apply At.there)) (.cons (by repeat (first | exact At.here | apply At.there)) (.cons (by repeat (first | exact At.here | apply At.there)) (by repeat (first | exact Sub.refl | apply Sub.under))))))) trivial
          refine wp_for H.length (fun i _ => [(105, .int .i64 (i : Int))]) (fun i _ => walkH bw asel csel (ou ++ fitL pt (kids.take i)) :: OwT 4 [ab2] (.slice a13 1 c13) :: OwT 4 [ab] (.slice aa 1 ca) :: L) (fun _ _ => True) () hk (by repeat (first | exact trivial | refine ⟨rfl, ?_⟩)) hS1 trivial ?_
          clear hk hS a c4' hS1
          rintro i - a w hi hk hS -
          have c4' := c4.frz hS.frz
          by_cases hil : i < H.length
          · obtain ⟨tk, htk⟩ : ∃ t, kids[i]? = some t := ⟨_, List.getElem?_eq_getElem (by omega)⟩
            obtain ⟨hd0, hx⟩ : ∃ x, H[i]? = some x := ⟨_, List.getElem?_eq_getElem hil⟩
            have hTr := hF.2 i tk hd0 htk hx
            have hmk := List.mem_of_getElem? htk
            have hlt : SizeOf.sizeOf tk < n := by have := skid_lt (id := id) (k := k) (tag := tag) (text := text) (cl := cl) (at_ := al) (st := sl) hmk; omega
            have hst : ou ++ fitL pt (kids.take (i + 1)) = (ou ++ fitL pt (kids.take i)) ++ fitT pt tk := by rw [take_snoc htk, fitL_snoc, List.append_assoc]
            have hft := fitL_take pt kids (i + 1)
            rw [take_snoc htk, fitL_snoc, List.length_append] at hft
            have hol : (ou ++ fitL pt (kids.take i)).length = ou.length + (fitL pt (kids.take i)).length := List.length_append
            obtain ⟨id', k', tag', text', ⟨z11, z12, z13⟩, ⟨z21, z22, z23⟩, ⟨z31, z32, z33⟩, ⟨z41, z42, z43⟩⟩ := hd0
            (repeat' (first | (show wpListIn _ _ _ _ _ (_ :: _) _ _; first | (refine wx1 ?_; clear hk a; intro a hk) | (refine wx2 ?_ ?_ <;> (intro hp; clear hk a; intro a hk)) | (refine wx3 ?_; clear hk hS a; intro w b hS a hk) | (refine wx4 ?_; clear hk hS a; intro w hS a hk) | (refine wx5 ?_; clear hk hS a; intro w v hS a hk) | fail) | refine wx0 ?_ | (refine s_end hk ?_; clear hk a; intro a hk) | fail))
            replace hS := hS.sub (L' := walkH bw asel csel (ou ++ fitL pt (kids.take i)) :: OwT 4 [ab2] (.slice a13 1 c13) :: OwT 4 [ab] (.slice aa 1 ca) :: L) (.cons (by repeat (first | exact At.here | apply At.there)) (.cons (by repeat (first | exact At.here | apply At.there)) (.cons (by repeat (first | exact At.here | apply At.there)) (by repeat (first | exact Sub.refl | apply Sub.under)))))
            refine sg hk (g_callO hk (hf := by kernel_rfl) (hc := ih tk (id', k', tag', text', ⟨z11, z12, z13⟩, ⟨z21, z22, z23⟩, ⟨z31, z32, z33⟩, ⟨z41, z42, z43⟩) (ou ++ fitL pt (kids.take i)) _ _ ab2 _ _ hlt (hkp.2 tk hmk) (by omega) hTr hS) (h := ?_)); clear hk hS a; intro vr w hS a hk
            rw [← hst] at hS
            (repeat' (first | (show wpListIn _ _ _ _ _ (_ :: _) _ _; first | (refine wx1 ?_; clear hk a; intro a hk) | (refine wx2 ?_ ?_ <;> (intro hp; clear hk a; intro a hk)) | (refine wx3 ?_; clear hk hS a; intro w b hS a hk) | (refine wx4 ?_; clear hk hS a; intro w hS a hk) | (refine wx5 ?_; clear hk hS a; intro w v hS a hk) | fail) | refine wx0 ?_ | (refine s_end hk ?_; clear hk a; intro a hk) | fail))
            exact ⟨hil, (), hk.sd, hS, trivial⟩
          · have hii : i = kids.length := by omega
            subst hii
            rw [List.take_length] at hS
            (repeat' (first | (show wpListIn _ _ _ _ _ (_ :: _) _ _; first | (refine wx1 ?_; clear hk a; intro a hk) | (refine wx2 ?_ ?_ <;> (intro hp; clear hk a; intro a hk)) | (refine wx3 ?_; clear hk hS a; intro w b hS a hk) | (refine wx4 ?_; clear hk hS a; intro w hS a hk) | (refine wx5 ?_; clear hk hS a; intro w v hS a hk) | fail) | refine wx0 ?_ | (refine s_end hk ?_; clear hk a; intro a hk) | fail))
            rw [← List.append_assoc, hou]
            refine done0n hk (h := ?_)
            exact hS.sub (.cons .here (Sub.under .refl))
      · cases fb with
        | true =>
          (repeat' (first | (show wpListIn _ _ _ _ _ (_ :: _) _ _; first | (refine wx1 ?_; clear hk a; intro a hk) | (refine wx2 ?_ ?_ <;> (intro hp; clear hk a; intro a hk)) | (refine wx3 ?_; clear hk hS a; intro w b hS a hk) | (refine wx4 ?_; clear hk hS a; intro w hS a hk) | (refine wx5 ?_; clear hk hS a; intro w v hS a hk) | fail) | refine wx0 ?_ | (refine s_end hk ?_; clear hk a; intro a hk) | fail))
          replace hS := hS.sub (L' := OwT 3 out (.slice x1 x2 x3) :: pts bw [.slice asel 1 csel, .slice x1 x2 x3] 72 :: OwT 4 [true] (.slice a8 1 c8) :: pts b5 [.int .i64 id, .int .i64 k, .string tag, .string text, .slice a1 cl.length m1, .slice a2 al.length m2, .slice a3 sl.length m3, .slice a4 H.length m4] 37 :: OwT 4 [ab] (.slice aa 1 ca) :: L) (.cons (by repeat (first | exact At.here | apply At.there)) (.cons (by repeat (first | exact At.here | apply At.there)) (.cons (by repeat (first | exact At.here | apply At.there)) (.cons (by repeat (first | exact At.here | apply At.there)) (.cons (by repeat (first | exact At.here | apply At.there)) (by repeat (first | exact Sub.refl | apply Sub.under)))))))
          refine wp_drawnU1 9 mixed (by kernel_rfl) hk hS ?_; clear hk hS a
          (repeat' (first | (show ObxE _ _ _ _ _ _ _ _ _ (_ :: _) _ _ _; first | refine ox1 ?_ | (refine ox2 ?_ ?_ <;> intro hp) | fail) | fail))
          refine' obe_res (fun us a w hk hd hS => ?_) ?_; rotate_left; focus (have hk := Kn.vw hk (by repeat (first | exact VW.nil | apply VW.val rfl | apply VW.base rfl rfl | apply VW.res rfl | apply VW.upd rfl | apply VW.cpy rfl | apply VW.dep rfl | apply VW.fn rfl | apply VW.lnd rfl | apply VW.tak rfl)); exact v_bsT (xs := [(id : Int)]) (m := 0) hk (hT := eT rfl) (hE := zT rfl) (hz := oT rfl))
          refine' obe_upd (OwT 3 out (.slice x1 x2 x3)) (fun us a w X hk hd hS hL => ?_) ?_; rotate_left; focus (have hk := Kn.vw hk (by repeat (first | exact VW.nil | apply VW.val rfl | apply VW.base rfl rfl | apply VW.res rfl | apply VW.upd rfl | apply VW.cpy rfl | apply VW.dep rfl | apply VW.fn rfl | apply VW.lnd rfl | apply VW.tak rfl)); exact v_app hk hS (hT := eT rfl) (hTx := eT rfl) (hs := OwT.rd hd.2.1) (hE := zT rfl) (hz := oT rfl) (hzs := rfl) (hby := bT rfl) (hbytes := by simp only [List.length_cons, List.length_nil]; omega) (h63 := by simp only [List.length_cons, List.length_nil, maxLen]; omega))
          refine obe_nil ⟨rfl, ?_⟩; intro us a w hk hS
          simp only [resE, List.cons_append, List.nil_append, Nat.zero_add, Nat.reduceAdd] at hS
          replace hk := Kn.kp [0, 3, 5, 8, 71, 79] hk
          simp only [HV.of, Nat.zero_add, Nat.reduceAdd] at hk
          generalize us 8 = v79 at hS hk
          generalize hol : out ++ [id] = ol at hS
          obtain ⟨a79, c79, rfl, _⟩ := (OwT.rd (hS.rd (A := OwT 3 ol v79) .here)).shape
          (repeat' (first | (show wpListIn _ _ _ _ _ (_ :: _) _ _; first | (refine wx1 ?_; clear hk a; intro a hk) | (refine wx2 ?_ ?_ <;> (intro hp; clear hk a; intro a hk)) | (refine wx3 ?_; clear hk hS a; intro w b hS a hk) | (refine wx4 ?_; clear hk hS a; intro w hS a hk) | (refine wx5 ?_; clear hk hS a; intro w v hS a hk) | fail) | refine wx0 ?_ | (refine s_end hk ?_; clear hk a; intro a hk) | fail))
          refine ⟨Kn.kp [0, 3, 5, 8] hk, a79, ol.length, c79, ?_⟩
          rw [if_pos rfl, hol]
          exact hS.sub (.cons (by repeat (first | exact At.here | apply At.there)) (.cons (by repeat (first | exact At.here | apply At.there)) (.cons (by repeat (first | exact At.here | apply At.there)) (.cons (by repeat (first | exact At.here | apply At.there)) (.cons (by repeat (first | exact At.here | apply At.there)) (by repeat (first | exact Sub.refl | apply Sub.under)))))))
        | false =>
          (repeat' (first | (show wpListIn _ _ _ _ _ (_ :: _) _ _; first | (refine wx1 ?_; clear hk a; intro a hk) | (refine wx2 ?_ ?_ <;> (intro hp; clear hk a; intro a hk)) | (refine wx3 ?_; clear hk hS a; intro w b hS a hk) | (refine wx4 ?_; clear hk hS a; intro w hS a hk) | (refine wx5 ?_; clear hk hS a; intro w v hS a hk) | fail) | refine wx0 ?_ | (refine s_end hk ?_; clear hk a; intro a hk) | fail))
          exact ⟨Kn.kp [0, 3, 5, 8] hk, x1, x2, x3, by
            rw [if_neg (by decide), List.append_nil]
            exact hS.sub (.cons (by repeat (first | exact At.here | apply At.there)) (.cons (by repeat (first | exact At.here | apply At.there)) (.cons (by repeat (first | exact At.here | apply At.there)) (.cons (by repeat (first | exact At.here | apply At.there)) (.cons (by repeat (first | exact At.here | apply At.there)) (by repeat (first | exact Sub.refl | apply Sub.under)))))))⟩
set_option maxHeartbeats 4000000 in
theorem qall33 (g : World) (pt : ByteArray) (asel : Option Addr) (csel : Nat) (t : STree) (h : SnH) (w0 : World) (hpl : PlT t) (hfl : (fitT pt t).length ≤ 1000) (hg : Frz g w0) (hsel : SlT [prt pt] (.slice asel 1 csel) g) (hr : SrR g t h) :
    Calls Try.prog 11 #[snV h, .slice asel 1 csel] w0 (Ret fun v w => St w0 [OwT 3 (fitT pt t) v] w) := by
  have hS : St ⟨g, w0⟩ [] w0 := St.reflG hg
  have hr0 := hr
  obtain ⟨id', k, tag, text, cl, al, sl, kids, a1, m1, a2, m2, a3, m3, a4, m4, H, rfl, rfl, -⟩ := hr.split
  generalize hT : STree.mk id' k tag text cl al sl kids = T at *
  show Calls Try.prog 11 #[.agg #[.int .i64 id', .int .i64 k, .string tag, .string text, .slice a1 cl.length m1, .slice a2 al.length m2, .slice a3 sl.length m3, .slice a4 H.length m4], .slice asel 1 csel] w0 _
  refine enter Try.func11 rfl Try.ntmps11 rfl (fun a hk => ?_)
  refine wpIn_seq ?_; refine wpIn_region_lit ?_
  refine st_box hk hS ?_; clear hk hS a; intro w b2 hS a hk
  (repeat' (first | (show wpListIn _ _ _ _ _ (_ :: _) _ _; first | (refine wx1 ?_; clear hk a; intro a hk) | (refine wx2 ?_ ?_ <;> (intro hp; clear hk a; intro a hk)) | (refine wx3 ?_; clear hk hS a; intro w b hS a hk) | (refine wx4 ?_; clear hk hS a; intro w hS a hk) | (refine wx5 ?_; clear hk hS a; intro w v hS a hk) | fail) | refine wx0 ?_ | (refine s_end hk ?_; clear hk a; intro a hk) | fail))
  rename Nat => bw
  have hse := hsel.frz hS.frz
  (repeat' (first | (show wpListIn _ _ _ _ _ (_ :: _) _ _; first | (refine wx1 ?_; clear hk a; intro a hk) | (refine wx2 ?_ ?_ <;> (intro hp; clear hk a; intro a hk)) | (refine wx3 ?_; clear hk hS a; intro w b hS a hk) | (refine wx4 ?_; clear hk hS a; intro w hS a hk) | (refine wx5 ?_; clear hk hS a; intro w v hS a hk) | fail) | refine wx0 ?_ | (refine s_end hk ?_; clear hk a; intro a hk) | fail))
  refine sg hk (g_mkT (z := false) (m := 1) hk hS ?_ (hT := eT rfl) (hE := zT rfl) (hz := oT rfl) (hby := bT rfl) (hm := by simp only [maxLen]; omega) (hbytes := by omega)); clear hk hS a; intro w v6 hS a hk
  replace hS := hS.nilT 3 Int
  obtain ⟨a6, c6, rfl, _⟩ := (OwT.rd (hS.rd (A := OwT 4 [false] v6) (by (repeat (first | exact At.here | apply At.there))))).shape
  have hS1 : St ⟨g, w0⟩ (walkH bw asel csel [] :: OwT 4 [false] (.slice a6 1 c6) :: pts b2 [.int .i64 id', .int .i64 k, .string tag, .string text, .slice a1 cl.length m1, .slice a2 al.length m2, .slice a3 sl.length m3, .slice a4 H.length m4] 37 :: []) w := bagH.of (A := fun hd : Hd => [pts bw [.slice asel 1 csel, hd.v] 72, OwT 3 ([] : List Int) hd.v]) (x := ⟨none, 0, 0⟩) (hS.sub (by (repeat (first | exact Sub.nil | exact Sub.refl | refine Sub.cons (by (repeat (first | exact At.here | apply At.there))) ?_)))) trivial
  clear hS
  have hS := hS1
  clear hS1 hse
  (repeat' (first | (show wpListIn _ _ _ _ _ (_ :: _) _ _; first | (refine wx1 ?_; clear hk a; intro a hk) | (refine wx2 ?_ ?_ <;> (intro hp; clear hk a; intro a hk)) | (refine wx3 ?_; clear hk hS a; intro w b hS a hk) | (refine wx4 ?_; clear hk hS a; intro w hS a hk) | (refine wx5 ?_; clear hk hS a; intro w v hS a hk) | fail) | refine wx0 ?_ | (refine s_end hk ?_; clear hk a; intro a hk) | fail))
  refine sg hk (g_callO hk (hf := by kernel_rfl) (hc := down33 pt bw asel csel ⟨g, w0⟩ hsel (SizeOf.sizeOf T + 1) T (id', k, tag, text, ⟨a1, cl.length, m1⟩, ⟨a2, al.length, m2⟩, ⟨a3, sl.length, m3⟩, ⟨a4, H.length, m4⟩) [] (.slice a6 1 c6) (.slice a6 1 c6) false _ _ (by omega) hpl (by simp only [List.length_nil]; omega) hr0 hS) (h := ?_)); clear hk hS a; intro vr w hS a hk
  rw [List.nil_append] at hS
  obtain ⟨⟨x1, x2, x3⟩, -, hS1⟩ := St.bag hS .here
  clear hS
  have hS := hS1
  clear hS1
  rw [List.cons_append, List.cons_append, List.nil_append] at hS
  replace hS : St ⟨g, w0⟩ (pts bw [.slice asel 1 csel, .slice x1 x2 x3] 72 :: OwT 3 (fitT pt T) (.slice x1 x2 x3) :: [OwT 4 [false] (.slice a6 1 c6), pts b2 [.int .i64 id', .int .i64 k, .string tag, .string text, .slice a1 cl.length m1, .slice a2 al.length m2, .slice a3 sl.length m3, .slice a4 H.length m4] 37]) w := hS
  (repeat' (first | (show wpListIn _ _ _ _ _ (_ :: _) _ _; first | (refine wx1 ?_; clear hk a; intro a hk) | (refine wx2 ?_ ?_ <;> (intro hp; clear hk a; intro a hk)) | (refine wx3 ?_; clear hk hS a; intro w b hS a hk) | (refine wx4 ?_; clear hk hS a; intro w hS a hk) | (refine wx5 ?_; clear hk hS a; intro w v hS a hk) | fail) | refine wx0 ?_ | (refine s_end hk ?_; clear hk a; intro a hk) | fail))
  exact done1 hk (h := (hS.sub (L' := [OwT 3 (fitT pt T) (.slice x1 x2 x3)]) (by (repeat (first | exact Sub.nil | exact Sub.refl | refine Sub.cons (by (repeat (first | exact At.here | apply At.there))) ?_)))).low0)
end Go.Proofs.Ytcahaaapmaahnaa
namespace Go.Proofs.Ytcahaaapmaahnaa
open Go.RowKit
set_option maxRecDepth 100000
attribute [local irreducible] Go.Code.wpIn Go.wpListIn Go.Calls Gives Go.Exit.then Go.Exit.inBlock Done ObxE

def tgtH (b2 b3 b4 b5 : Nat) : HP := bagH (fun hd : Hd => [pts b2 [hd.v] 62, OwT 78 ([] : List Ent) hd.v, pts b3 [.int .i64 0] 3, pts b4 [.int .i64 0] 3, pts b5 [.int .i64 (-1)] 3]) (fun _ => True)
def tgtP (_ : Unit) (_ : STree × List Int) : Bool × Unit := (true, ())
theorem tgt_run : ∀ (l : List (STree × List Int)), runQ tgtP () l = (true, ())
  | [] => rfl
  | x :: r => by rw [runQ, tgtP, if_pos rfl, tgt_run r]
set_option maxHeartbeats 4000000 in
theorem tgtY33 (b2 b3 b4 b5 : Nat) (B : Bs) (x : STree) (way : List Int) (h : SnH) (vw : Value) (L : List HP) (w : World) (hS : St B (OwT 3 way vw :: tgtH b2 b3 b4 b5 :: L) w) (hr : SrR B.g x h) :
    Calls Try.prog 17 #[snV h, vw, .pointer (some ⟨b2, 0, none⟩), .pointer (some ⟨b3, 0, none⟩), .pointer (some ⟨b4, 0, none⟩), .pointer (some ⟨b5, 0, none⟩)] w (Ret fun v w' => v = .bool true ∧ St B (OwT 3 way vw :: tgtH b2 b3 b4 b5 :: L) w') := by
  obtain ⟨id', k, tag, text, cl, al, sl, kids, a1, m1, a2, m2, a3, m3, a4, m4, H, rfl, rfl, -⟩ := hr.split
  obtain ⟨aw, cw, rfl, _⟩ := (OwT.rd (hS.rd (A := OwT 3 way vw) .here)).shape
  obtain ⟨hd, -, hS1⟩ := St.bag hS (.there .here)
  clear hS
  have hS := hS1
  clear hS1
  obtain ⟨x1, x2, x3⟩ := hd
  rw [List.cons_append, List.cons_append, List.cons_append, List.cons_append, List.cons_append, List.nil_append] at hS
  replace hS : St B (pts b2 [.slice x1 x2 x3] 62 :: OwT 78 ([] : List Ent) (.slice x1 x2 x3) :: pts b3 [.int .i64 0] 3 :: pts b4 [.int .i64 0] 3 :: pts b5 [.int .i64 (-1)] 3 :: OwT 3 way (.slice aw way.length cw) :: L) w := hS
  show Calls Try.prog 17 #[.agg #[.int .i64 id', .int .i64 k, .string tag, .string text, .slice a1 cl.length m1, .slice a2 al.length m2, .slice a3 sl.length m3, .slice a4 H.length m4], .slice aw way.length cw, .pointer (some ⟨b2, 0, none⟩), .pointer (some ⟨b3, 0, none⟩), .pointer (some ⟨b4, 0, none⟩), .pointer (some ⟨b5, 0, none⟩)] w _
  have hg := fun w0 h1 => get_any ([] : List Ent) id' (.slice x1 x2 x3) w0 h1 (by simp)
  rw [show lastF eid ([] : List Ent) id' = none from rfl, show getR ([] : List Ent) id' = (0, 0, 0, 0) from rfl] at hg
  simp only [Option.isSome_none] at hg
  refine enter Try.func17 rfl Try.ntmps17 rfl (fun a hk => ?_)
  (repeat' (first | (show wpListIn _ _ _ _ _ (_ :: _) _ _; first | (refine wx1 ?_; clear hk a; intro a hk) | (refine wx2 ?_ ?_ <;> (intro hp; clear hk a; intro a hk)) | (refine wx3 ?_; clear hk hS a; intro w b hS a hk) | (refine wx4 ?_; clear hk hS a; intro w hS a hk) | (refine wx5 ?_; clear hk hS a; intro w v hS a hk) | fail) | refine wx0 ?_ | (refine s_end hk ?_; clear hk a; intro a hk) | fail))
  refine sg hk (g_callO hk (hf := by kernel_rfl) (hc := hg _ (OwT.rd (hS.rd (A := OwT 78 ([] : List Ent) (.slice x1 x2 x3)) (by (repeat (first | exact At.here | apply At.there)))))) (h := ?_)); clear hk a; rintro _ w ⟨rfl, hS1⟩ a hk; replace hS := hS.call0 hS1; clear hS1
  (repeat' (first | (show wpListIn _ _ _ _ _ (_ :: _) _ _; first | (refine wx1 ?_; clear hk a; intro a hk) | (refine wx2 ?_ ?_ <;> (intro hp; clear hk a; intro a hk)) | (refine wx3 ?_; clear hk hS a; intro w b hS a hk) | (refine wx4 ?_; clear hk hS a; intro w hS a hk) | (refine wx5 ?_; clear hk hS a; intro w v hS a hk) | fail) | refine wx0 ?_ | (refine s_end hk ?_; clear hk a; intro a hk) | fail))
  refine done1 hk (h := ⟨rfl, ?_⟩)
  exact St.sub (bagH.of (A := fun hd : Hd => [pts b2 [hd.v] 62, OwT 78 ([] : List Ent) hd.v, pts b3 [.int .i64 0] 3, pts b4 [.int .i64 0] 3, pts b5 [.int .i64 (-1)] 3]) (p := fun _ => True) (x := ⟨x1, x2, x3⟩) (L := OwT 3 way (.slice aw way.length cw) :: L)
    (hS.sub (.cons (by repeat (first | exact At.here | apply At.there)) (.cons (by repeat (first | exact At.here | apply At.there)) (.cons (by repeat (first | exact At.here | apply At.there)) (.cons (by repeat (first | exact At.here | apply At.there)) (.cons (by repeat (first | exact At.here | apply At.there)) (.cons (by repeat (first | exact At.here | apply At.there)) (by repeat (first | exact Sub.refl | apply Sub.under))))))))) trivial) (.cons (.there .here) (.cons .here .refl))
set_option maxHeartbeats 4000000 in
theorem target33 (g : World) (t : STree) (h : SnH) (w0 : World) (hpl : PlT t) (hsz : SizeOf.sizeOf t < 800) (hg : Frz g w0) (hr : SrR g t h) :
    Calls Try.prog 9 #[snV h, .slice none 0 0, .int .i64 0, .int .i64 0] w0 (Ret fun v w => v = .int .i64 (-1) ∧ St w0 [] w) := by
  have hS : St ⟨g, w0⟩ [] w0 := St.reflG hg
  have hr0 := hr
  obtain ⟨id', k, tag, text, cl, al, sl, kids, a1, m1, a2, m2, a3, m3, a4, m4, H, rfl, rfl, -⟩ := hr.split
  generalize hT : STree.mk id' k tag text cl al sl kids = T at *
  show Calls Try.prog 9 #[.agg #[.int .i64 id', .int .i64 k, .string tag, .string text, .slice a1 cl.length m1, .slice a2 al.length m2, .slice a3 sl.length m3, .slice a4 H.length m4], .slice none 0 0, .int .i64 0, .int .i64 0] w0 _
  refine enter Try.func9 rfl Try.ntmps9 rfl (fun a hk => ?_)
  refine wpIn_seq ?_; refine wpIn_region_lit ?_
  refine st_box hk hS ?_; clear hk hS a; intro w b4 hS a hk
  refine st_box hk hS ?_; clear hk hS a; intro w b5 hS a hk
  refine st_box hk hS ?_; clear hk hS a; intro w b6 hS a hk
  refine st_box hk hS ?_; clear hk hS a; intro w b7 hS a hk
  (repeat' (first | (show wpListIn _ _ _ _ _ (_ :: _) _ _; first | (refine wx1 ?_; clear hk a; intro a hk) | (refine wx2 ?_ ?_ <;> (intro hp; clear hk a; intro a hk)) | (refine wx3 ?_; clear hk hS a; intro w b hS a hk) | (refine wx4 ?_; clear hk hS a; intro w hS a hk) | (refine wx5 ?_; clear hk hS a; intro w v hS a hk) | fail) | refine wx0 ?_ | (refine s_end hk ?_; clear hk a; intro a hk) | fail))
  refine sg hk (g_callO hk (hf := by kernel_rfl) (hc := snapOf_any ([] : List Ent) (.slice none 0 0) _ (SlT.nil _) (by simp)) (h := ?_)); clear hk a; rintro vs w hS1 a hk; replace hS := hS.call hS1; clear hS1
  rw [List.cons_append, List.nil_append, show snapF eid ([] : List Ent) = [] from rfl] at hS
  obtain ⟨aovs, cvs, hshp, _⟩ := (OwT.rd (hS.rd (A := OwT 78 _ vs) (by (repeat (first | exact At.here | apply At.there))))).shape; subst hshp
  (repeat' (first | (show wpListIn _ _ _ _ _ (_ :: _) _ _; first | (refine wx1 ?_; clear hk a; intro a hk) | (refine wx2 ?_ ?_ <;> (intro hp; clear hk a; intro a hk)) | (refine wx3 ?_; clear hk hS a; intro w b hS a hk) | (refine wx4 ?_; clear hk hS a; intro w hS a hk) | (refine wx5 ?_; clear hk hS a; intro w v hS a hk) | fail) | refine wx0 ?_ | (refine s_end hk ?_; clear hk a; intro a hk) | fail))
  rename Nat => b9
  have hS1 : St ⟨g, w0⟩ (tgtH b5 b6 b7 b9 :: [pts b4 [.int .i64 id', .int .i64 k, .string tag, .string text, .slice a1 cl.length m1, .slice a2 al.length m2, .slice a3 sl.length m3, .slice a4 H.length m4] 37]) w := bagH.of (A := fun hd : Hd => [pts b5 [hd.v] 62, OwT 78 ([] : List Ent) hd.v, pts b6 [.int .i64 0] 3, pts b7 [.int .i64 0] 3, pts b9 [.int .i64 (-1)] 3]) (x := ⟨aovs, 0, cvs⟩) (hS.sub (by (repeat (first | exact Sub.nil | exact Sub.refl | refine Sub.cons (by (repeat (first | exact At.here | apply At.there))) ?_)))) trivial
  clear hS
  have hS := hS1.nilT 3 Int
  clear hS1
  (repeat' (first | (show wpListIn _ _ _ _ _ (_ :: _) _ _; first | (refine wx1 ?_; clear hk a; intro a hk) | (refine wx2 ?_ ?_ <;> (intro hp; clear hk a; intro a hk)) | (refine wx3 ?_; clear hk hS a; intro w b hS a hk) | (refine wx4 ?_; clear hk hS a; intro w hS a hk) | (refine wx5 ?_; clear hk hS a; intro w v hS a hk) | fail) | refine wx0 ?_ | (refine s_end hk ?_; clear hk a; intro a hk) | fail))
  refine sg hk (g_callO hk (hf := by kernel_rfl) (hc := hears33 (fun _ : Unit => tgtH b5 b6 b7 b9) tgtP 17 [.pointer (some ⟨b5, 0, none⟩), .pointer (some ⟨b6, 0, none⟩), .pointer (some ⟨b7, 0, none⟩), .pointer (some ⟨b9, 0, none⟩)] (by kernel_rfl) ⟨g, w0⟩ (fun s x way h vw L w hS hr => tgtY33 b5 b6 b7 b9 ⟨g, w0⟩ x way h vw L w hS hr) (SizeOf.sizeOf T + 1) T (id', k, tag, text, ⟨a1, cl.length, m1⟩, ⟨a2, al.length, m2⟩, ⟨a3, sl.length, m3⟩, ⟨a4, H.length, m4⟩) [] (.slice none 0 0) () _ _ (by omega) (by simp only [List.length_nil]; omega) hpl hr0 hS) (h := ?_)); clear hk hS a; rintro _ w ⟨rfl, hS⟩ a hk
  rw [tgt_run] at hS
  unfold wayL at hS
  rw [if_pos rfl, List.cons_append, List.cons_append, List.nil_append] at hS
  obtain ⟨⟨x1, x2, x3⟩, -, hS1⟩ := St.bag hS (.there .here)
  clear hS
  have hS := hS1
  clear hS1
  rw [List.cons_append, List.cons_append, List.cons_append, List.cons_append, List.cons_append, List.nil_append] at hS
  replace hS : St ⟨g, w0⟩ (pts b5 [.slice x1 x2 x3] 62 :: OwT 78 ([] : List Ent) (.slice x1 x2 x3) :: pts b6 [.int .i64 0] 3 :: pts b7 [.int .i64 0] 3 :: pts b9 [.int .i64 (-1)] 3 :: OwT 3 ([] : List Int) (.slice none 0 0) :: [pts b4 [.int .i64 id', .int .i64 k, .string tag, .string text, .slice a1 cl.length m1, .slice a2 al.length m2, .slice a3 sl.length m3, .slice a4 H.length m4] 37]) w := hS
  (repeat' (first | (show wpListIn _ _ _ _ _ (_ :: _) _ _; first | (refine wx1 ?_; clear hk a; intro a hk) | (refine wx2 ?_ ?_ <;> (intro hp; clear hk a; intro a hk)) | (refine wx3 ?_; clear hk hS a; intro w b hS a hk) | (refine wx4 ?_; clear hk hS a; intro w hS a hk) | (refine wx5 ?_; clear hk hS a; intro w v hS a hk) | fail) | refine wx0 ?_ | (refine s_end hk ?_; clear hk a; intro a hk) | fail))
  exact done1 hk (h := ⟨rfl, hS.flat⟩)
end Go.Proofs.Ytcahaaapmaahnaa
namespace Go.Proofs.Ytcahaaapmaahnaa
open Go.RowKit
set_option maxRecDepth 100000
attribute [local irreducible] Go.Code.wpIn Go.wpListIn Go.Calls Gives Go.Exit.then Go.Exit.inBlock Done ObxE

def atF (caps : List Bool) (rows : List (List Int)) (id : Int) (cap : Bool) : Nat → List (Int × Int)
  | 0 => []
  | n + 1 => atF caps rows id cap n ++ (if caps.getD n false = cap ∧ id ∈ rows.getD n [] then [((n : Int), id)] else [])
theorem atF_len (caps : List Bool) (rows : List (List Int)) (id : Int) (cap : Bool) : ∀ n, (atF caps rows id cap n).length ≤ n
  | 0 => Nat.le_refl _
  | n + 1 => by
    have := atF_len caps rows id cap n
    rw [atF, List.length_append]
    split <;> simp <;> omega
abbrev LsC := Hd × Bool × Bool
def rndH (br : Nat) (lv fv : Value) (calls : List (Int × Int)) : HP := bagH (fun hd : Hd => [pts br [lv, fv, hd.v, .bool false] 53, OwT 26 calls hd.v]) (fun _ => True)
set_option maxHeartbeats 8000000 in
theorem at33 (br : Nat) (Ls : List LsC) (rows : List (List Int)) (RH : List Hd) (la ra : Option Addr) (lc rc : Nat) (B : Bs) (hL : SlT Ls (.slice la Ls.length lc) B.g) (hstop : ∀ x ∈ Ls, x.2.2 = false) (hR : SlT RH (.slice ra RH.length rc) B.g)
    (hrl : RH.length = rows.length) (hll : Ls.length = rows.length) (hl10 : rows.length ≤ 100) (hrows : ∀ (i : Nat) (r : List Int) (h : Hd), rows[i]? = some r → RH[i]? = some h → SlT r h.v B.g ∧ r.length ≤ 1000)
    (calls : List (Int × Int)) (id : Int) (cap : Bool) (L : List HP) (w : World) (hcl : calls.length ≤ 1000) (hS : St B (rndH br (.slice la Ls.length lc) (.slice ra RH.length rc) calls :: L) w) :
    Calls Try.prog 12 #[.pointer (some ⟨br, 0, none⟩), .int .i64 id, .bool cap] w (Ret fun _ w' => St B (rndH br (.slice la Ls.length lc) (.slice ra RH.length rc) (calls ++ atF (Ls.map (fun x => x.2.1)) rows id cap Ls.length) :: L) w') := by
  obtain ⟨⟨x1, x2, x3⟩, -, hS1⟩ := St.bag hS .here
  clear hS
  have hS := hS1
  clear hS1
  rw [List.cons_append, List.cons_append, List.nil_append] at hS
  obtain ⟨xa, xc, xe, _⟩ := (OwT.rd (hS.rd (A := OwT 26 calls (Hd.v ⟨x1, x2, x3⟩)) (.there .here))).shape
  injection xe with xe1 xe2 xe3
  subst xe2
  have hS0 : St B (pts br [.slice la Ls.length lc, .slice ra RH.length rc, .slice x1 (calls ++ atF (Ls.map (fun x => x.2.1)) rows id cap 0).length x3, .bool false] 53 :: OwT 26 (calls ++ atF (Ls.map (fun x => x.2.1)) rows id cap 0) (.slice x1 (calls ++ atF (Ls.map (fun x => x.2.1)) rows id cap 0).length x3) :: L) w := by
    rw [atF, List.append_nil]
    exact hS
  clear hS
  have hS := hS0
  clear hS0
  have hlen := fun i => atF_len (Ls.map (fun x => x.2.1)) rows id cap i
  have hLw := hL.frz hS.frz
  refine enter Try.func12 rfl Try.ntmps12 rfl (fun a hk => ?_)
  (repeat' (first | (show wpListIn _ _ _ _ _ (_ :: _) _ _; first | (refine wx1 ?_; clear hk a; intro a hk) | (refine wx2 ?_ ?_ <;> (intro hp; clear hk a; intro a hk)) | (refine wx3 ?_; clear hk hS a; intro w b hS a hk) | (refine wx4 ?_; clear hk hS a; intro w hS a hk) | (refine wx5 ?_; clear hk hS a; intro w v hS a hk) | fail) | refine wx0 ?_ | (refine s_end hk ?_; clear hk a; intro a hk) | fail))
  replace hk := Kn.kp [0, 1, 2, 11, 12, 13] hk
  refine wp_for Ls.length (fun i _ => [(13, .int .i64 (i : Int))]) (fun i v => pts br [.slice la Ls.length lc, .slice ra RH.length rc, .slice v.1 (calls ++ atF (Ls.map (fun x => x.2.1)) rows id cap i).length v.2, .bool false] 53 :: OwT 26 (calls ++ atF (Ls.map (fun x => x.2.1)) rows id cap i) (.slice v.1 (calls ++ atF (Ls.map (fun x => x.2.1)) rows id cap i).length v.2) :: L) (fun _ _ => True) ((x1, x3) : Option Addr × Nat) hk (by repeat (first | exact trivial | refine ⟨rfl, ?_⟩)) hS trivial ?_
  clear hk hS a hLw
  rintro i ⟨ao, c⟩ a w hi hk hS -
  simp only at hS hk
  by_cases hil : i < Ls.length
  · obtain ⟨⟨⟨s1, s2, s3⟩, cp, stp⟩, hx⟩ : ∃ x, Ls[i]? = some x := ⟨_, List.getElem?_eq_getElem hil⟩
    obtain ⟨r, hr⟩ : ∃ x, rows[i]? = some x := ⟨_, List.getElem?_eq_getElem (by omega)⟩
    obtain ⟨⟨r1, r2, r3⟩, hrh⟩ : ∃ x, RH[i]? = some x := ⟨_, List.getElem?_eq_getElem (by omega)⟩
    obtain ⟨hsl, hrl1⟩ := hrows i r _ hr hrh
    have hsf : stp = false := hstop _ (List.mem_of_getElem? hx)
    subst hsf
    have e1 : (Ls.map (fun x => x.2.1)).getD i false = cp := by rw [List.getD_eq_getElem?_getD, List.getElem?_map, hx]; rfl
    have e2 : rows.getD i [] = r := by rw [List.getD_eq_getElem?_getD, hr]; rfl
    have hst : calls ++ atF (Ls.map (fun x => x.2.1)) rows id cap (i + 1) = (calls ++ atF (Ls.map (fun x => x.2.1)) rows id cap i) ++ (if cp = cap ∧ id ∈ r then [((i : Int), id)] else []) := by rw [atF, e1, e2, List.append_assoc]
    have hCl : (calls ++ atF (Ls.map (fun x => x.2.1)) rows id cap i).length ≤ 1100 := by
      have := hlen i
      rw [List.length_append]; omega
    generalize calls ++ atF (Ls.map (fun x => x.2.1)) rows id cap (i + 1) = C1 at *
    generalize calls ++ atF (Ls.map (fun x => x.2.1)) rows id cap i = C at *
    have hLw := hL.frz hS.frz
    cases cp <;> cases cap
    · (repeat' (first | (show wpListIn _ _ _ _ _ (_ :: _) _ _; first | (refine wx1 ?_; clear hk a; intro a hk) | (refine wx2 ?_ ?_ <;> (intro hp; clear hk a; intro a hk)) | (refine wx3 ?_; clear hk hS a; intro w b hS a hk) | (refine wx4 ?_; clear hk hS a; intro w hS a hk) | (refine wx5 ?_; clear hk hS a; intro w v hS a hk) | fail) | refine wx0 ?_ | (refine s_end hk ?_; clear hk a; intro a hk) | fail))
      have hRw := hR.frz hS.frz
      have hsw := hsl.frz hS.frz
      (repeat' (first | (show wpListIn _ _ _ _ _ (_ :: _) _ _; first | (refine wx1 ?_; clear hk a; intro a hk) | (refine wx2 ?_ ?_ <;> (intro hp; clear hk a; intro a hk)) | (refine wx3 ?_; clear hk hS a; intro w b hS a hk) | (refine wx4 ?_; clear hk hS a; intro w hS a hk) | (refine wx5 ?_; clear hk hS a; intro w v hS a hk) | fail) | refine wx0 ?_ | (refine s_end hk ?_; clear hk a; intro a hk) | fail))
      refine sg hk (g_callO hk (hf := by kernel_rfl) (hc := contains_any r id _ _ hsw (by omega)) (h := ?_)); clear hk a; rintro _ w ⟨rfl, hS1⟩ a hk; replace hS := hS.call0 hS1; clear hS1
      by_cases hin : id ∈ r
      · rw [if_pos ⟨rfl, hin⟩] at hst
        rw [decide_eq_true hin] at hk
        (repeat' (first | (show wpListIn _ _ _ _ _ (_ :: _) _ _; first | (refine wx1 ?_; clear hk a; intro a hk) | (refine wx2 ?_ ?_ <;> (intro hp; clear hk a; intro a hk)) | (refine wx3 ?_; clear hk hS a; intro w b hS a hk) | (refine wx4 ?_; clear hk hS a; intro w hS a hk) | (refine wx5 ?_; clear hk hS a; intro w v hS a hk) | fail) | refine wx0 ?_ | (refine s_end hk ?_; clear hk a; intro a hk) | fail))
        refine sg hk (g_bsT (xs := [(((i : Int), id) : Int × Int)]) (m := 0) hk hS ?_ (hT := eT rfl) (hE := zT rfl) (hz := oT rfl)); clear hk hS a; intro w ve hS a hk
        (repeat' (first | (show wpListIn _ _ _ _ _ (_ :: _) _ _; first | (refine wx1 ?_; clear hk a; intro a hk) | (refine wx2 ?_ ?_ <;> (intro hp; clear hk a; intro a hk)) | (refine wx3 ?_; clear hk hS a; intro w b hS a hk) | (refine wx4 ?_; clear hk hS a; intro w hS a hk) | (refine wx5 ?_; clear hk hS a; intro w v hS a hk) | fail) | refine wx0 ?_ | (refine s_end hk ?_; clear hk a; intro a hk) | fail))
        rw [← hst] at hS
        rename Value => vn
        obtain ⟨aovn, cvn, hshp, _⟩ := (OwT.rd (hS.rd (A := OwT 26 _ vn) (by (repeat (first | exact At.here | apply At.there))))).shape; subst hshp
        (repeat' (first | (show wpListIn _ _ _ _ _ (_ :: _) _ _; first | (refine wx1 ?_; clear hk a; intro a hk) | (refine wx2 ?_ ?_ <;> (intro hp; clear hk a; intro a hk)) | (refine wx3 ?_; clear hk hS a; intro w b hS a hk) | (refine wx4 ?_; clear hk hS a; intro w hS a hk) | (refine wx5 ?_; clear hk hS a; intro w v hS a hk) | fail) | refine wx0 ?_ | (refine s_end hk ?_; clear hk a; intro a hk) | fail))
        exact ⟨hil, (aovn, cvn), hk.sd, hS.sub (.cons (by repeat (first | exact At.here | apply At.there)) (.cons (by repeat (first | exact At.here | apply At.there)) (by repeat (first | exact Sub.refl | apply Sub.under)))), trivial⟩
      · rw [if_neg (fun h => hin h.2), List.append_nil] at hst
        rw [decide_eq_false hin] at hk
        subst hst
        (repeat' (first | (show wpListIn _ _ _ _ _ (_ :: _) _ _; first | (refine wx1 ?_; clear hk a; intro a hk) | (refine wx2 ?_ ?_ <;> (intro hp; clear hk a; intro a hk)) | (refine wx3 ?_; clear hk hS a; intro w b hS a hk) | (refine wx4 ?_; clear hk hS a; intro w hS a hk) | (refine wx5 ?_; clear hk hS a; intro w v hS a hk) | fail) | refine wx0 ?_ | (refine s_end hk ?_; clear hk a; intro a hk) | fail))
        exact ⟨hil, (ao, c), hk.sd, hS.sub (.cons (by repeat (first | exact At.here | apply At.there)) (.cons (by repeat (first | exact At.here | apply At.there)) (by repeat (first | exact Sub.refl | apply Sub.under)))), trivial⟩
    · rw [if_neg (fun h => by cases h.1), List.append_nil] at hst
      subst hst
      (repeat' (first | (show wpListIn _ _ _ _ _ (_ :: _) _ _; first | (refine wx1 ?_; clear hk a; intro a hk) | (refine wx2 ?_ ?_ <;> (intro hp; clear hk a; intro a hk)) | (refine wx3 ?_; clear hk hS a; intro w b hS a hk) | (refine wx4 ?_; clear hk hS a; intro w hS a hk) | (refine wx5 ?_; clear hk hS a; intro w v hS a hk) | fail) | refine wx0 ?_ | (refine s_end hk ?_; clear hk a; intro a hk) | fail))
      exact ⟨hil, (ao, c), hk.sd, hS.sub (.cons (by repeat (first | exact At.here | apply At.there)) (.cons (by repeat (first | exact At.here | apply At.there)) (by repeat (first | exact Sub.refl | apply Sub.under)))), trivial⟩
    · rw [if_neg (fun h => by cases h.1), List.append_nil] at hst
      subst hst
      (repeat' (first | (show wpListIn _ _ _ _ _ (_ :: _) _ _; first | (refine wx1 ?_; clear hk a; intro a hk) | (refine wx2 ?_ ?_ <;> (intro hp; clear hk a; intro a hk)) | (refine wx3 ?_; clear hk hS a; intro w b hS a hk) | (refine wx4 ?_; clear hk hS a; intro w hS a hk) | (refine wx5 ?_; clear hk hS a; intro w v hS a hk) | fail) | refine wx0 ?_ | (refine s_end hk ?_; clear hk a; intro a hk) | fail))
      exact ⟨hil, (ao, c), hk.sd, hS.sub (.cons (by repeat (first | exact At.here | apply At.there)) (.cons (by repeat (first | exact At.here | apply At.there)) (by repeat (first | exact Sub.refl | apply Sub.under)))), trivial⟩
    · (repeat' (first | (show wpListIn _ _ _ _ _ (_ :: _) _ _; first | (refine wx1 ?_; clear hk a; intro a hk) | (refine wx2 ?_ ?_ <;> (intro hp; clear hk a; intro a hk)) | (refine wx3 ?_; clear hk hS a; intro w b hS a hk) | (refine wx4 ?_; clear hk hS a; intro w hS a hk) | (refine wx5 ?_; clear hk hS a; intro w v hS a hk) | fail) | refine wx0 ?_ | (refine s_end hk ?_; clear hk a; intro a hk) | fail))
      have hRw := hR.frz hS.frz
      have hsw := hsl.frz hS.frz
      (repeat' (first | (show wpListIn _ _ _ _ _ (_ :: _) _ _; first | (refine wx1 ?_; clear hk a; intro a hk) | (refine wx2 ?_ ?_ <;> (intro hp; clear hk a; intro a hk)) | (refine wx3 ?_; clear hk hS a; intro w b hS a hk) | (refine wx4 ?_; clear hk hS a; intro w hS a hk) | (refine wx5 ?_; clear hk hS a; intro w v hS a hk) | fail) | refine wx0 ?_ | (refine s_end hk ?_; clear hk a; intro a hk) | fail))
      refine sg hk (g_callO hk (hf := by kernel_rfl) (hc := contains_any r id _ _ hsw (by omega)) (h := ?_)); clear hk a; rintro _ w ⟨rfl, hS1⟩ a hk; replace hS := hS.call0 hS1; clear hS1
      by_cases hin : id ∈ r
      · rw [if_pos ⟨rfl, hin⟩] at hst
        rw [decide_eq_true hin] at hk
        (repeat' (first | (show wpListIn _ _ _ _ _ (_ :: _) _ _; first | (refine wx1 ?_; clear hk a; intro a hk) | (refine wx2 ?_ ?_ <;> (intro hp; clear hk a; intro a hk)) | (refine wx3 ?_; clear hk hS a; intro w b hS a hk) | (refine wx4 ?_; clear hk hS a; intro w hS a hk) | (refine wx5 ?_; clear hk hS a; intro w v hS a hk) | fail) | refine wx0 ?_ | (refine s_end hk ?_; clear hk a; intro a hk) | fail))
        refine sg hk (g_bsT (xs := [(((i : Int), id) : Int × Int)]) (m := 0) hk hS ?_ (hT := eT rfl) (hE := zT rfl) (hz := oT rfl)); clear hk hS a; intro w ve hS a hk
        (repeat' (first | (show wpListIn _ _ _ _ _ (_ :: _) _ _; first | (refine wx1 ?_; clear hk a; intro a hk) | (refine wx2 ?_ ?_ <;> (intro hp; clear hk a; intro a hk)) | (refine wx3 ?_; clear hk hS a; intro w b hS a hk) | (refine wx4 ?_; clear hk hS a; intro w hS a hk) | (refine wx5 ?_; clear hk hS a; intro w v hS a hk) | fail) | refine wx0 ?_ | (refine s_end hk ?_; clear hk a; intro a hk) | fail))
        rw [← hst] at hS
        rename Value => vn
        obtain ⟨aovn, cvn, hshp, _⟩ := (OwT.rd (hS.rd (A := OwT 26 _ vn) (by (repeat (first | exact At.here | apply At.there))))).shape; subst hshp
        (repeat' (first | (show wpListIn _ _ _ _ _ (_ :: _) _ _; first | (refine wx1 ?_; clear hk a; intro a hk) | (refine wx2 ?_ ?_ <;> (intro hp; clear hk a; intro a hk)) | (refine wx3 ?_; clear hk hS a; intro w b hS a hk) | (refine wx4 ?_; clear hk hS a; intro w hS a hk) | (refine wx5 ?_; clear hk hS a; intro w v hS a hk) | fail) | refine wx0 ?_ | (refine s_end hk ?_; clear hk a; intro a hk) | fail))
        exact ⟨hil, (aovn, cvn), hk.sd, hS.sub (.cons (by repeat (first | exact At.here | apply At.there)) (.cons (by repeat (first | exact At.here | apply At.there)) (by repeat (first | exact Sub.refl | apply Sub.under)))), trivial⟩
      · rw [if_neg (fun h => hin h.2), List.append_nil] at hst
        rw [decide_eq_false hin] at hk
        subst hst
        (repeat' (first | (show wpListIn _ _ _ _ _ (_ :: _) _ _; first | (refine wx1 ?_; clear hk a; intro a hk) | (refine wx2 ?_ ?_ <;> (intro hp; clear hk a; intro a hk)) | (refine wx3 ?_; clear hk hS a; intro w b hS a hk) | (refine wx4 ?_; clear hk hS a; intro w hS a hk) | (refine wx5 ?_; clear hk hS a; intro w v hS a hk) | fail) | refine wx0 ?_ | (refine s_end hk ?_; clear hk a; intro a hk) | fail))
        exact ⟨hil, (ao, c), hk.sd, hS.sub (.cons (by repeat (first | exact At.here | apply At.there)) (.cons (by repeat (first | exact At.here | apply At.there)) (by repeat (first | exact Sub.refl | apply Sub.under)))), trivial⟩
  · have hii : i = Ls.length := by omega
    subst hii
    (repeat' (first | (show wpListIn _ _ _ _ _ (_ :: _) _ _; first | (refine wx1 ?_; clear hk a; intro a hk) | (refine wx2 ?_ ?_ <;> (intro hp; clear hk a; intro a hk)) | (refine wx3 ?_; clear hk hS a; intro w b hS a hk) | (refine wx4 ?_; clear hk hS a; intro w hS a hk) | (refine wx5 ?_; clear hk hS a; intro w v hS a hk) | fail) | refine wx0 ?_ | (refine s_end hk ?_; clear hk a; intro a hk) | fail))
    refine done0n hk (h := ?_)
    exact bagH.of (A := fun hd : Hd => [pts br [.slice la Ls.length lc, .slice ra RH.length rc, hd.v, .bool false] 53, OwT 26 (calls ++ atF (Ls.map (fun x => x.2.1)) rows id cap Ls.length) hd.v]) (x := ⟨ao, (calls ++ atF (Ls.map (fun x => x.2.1)) rows id cap Ls.length).length, c⟩) hS trivial
end Go.Proofs.Ytcahaaapmaahnaa
namespace Go.Proofs.Ytcahaaapmaahnaa
open Go.RowKit
set_option maxRecDepth 100000
attribute [local irreducible] Go.Code.wpIn Go.wpListIn Go.Calls Gives Go.Exit.then Go.Exit.inBlock Done ObxE

def exH {α : Type} (A : α → HP) (p : α → Prop) : HP where
  holds F w := ∃ x, p x ∧ (A x).holds F w
  stable := fun F w w' ⟨x, hp, h⟩ hh => ⟨x, hp, (A x).stable F w w' h hh⟩
  dom := fun F w c ⟨x, _, h⟩ hc => (A x).dom F w c h hc
theorem backw_any {B : Bs} {w : World} {L : List HP} {ao : Option Addr} {j c : Nat} (hS : St B L w) :
    Calls Try.prog 13 #[.slice ao j c] w (Ret fun u w' => ∃ b, u = .func (.func 22) #[] #[.pointer (some ⟨b, 0, none⟩)] ∧ St B (pts b [.slice ao j c] 24 :: L) w') := by
  refine enter Try.func13 rfl Try.ntmps13 rfl (fun a hk => ?_)
  (repeat' (first | (show wpListIn _ _ _ _ _ (_ :: _) _ _; first | (refine wx1 ?_; clear hk a; intro a hk) | (refine wx2 ?_ ?_ <;> (intro hp; clear hk a; intro a hk)) | (refine wx3 ?_; clear hk hS a; intro w b hS a hk) | (refine wx4 ?_; clear hk hS a; intro w hS a hk) | (refine wx5 ?_; clear hk hS a; intro w v hS a hk) | fail) | refine wx0 ?_ | (refine s_end hk ?_; clear hk a; intro a hk) | fail))
  exact done1 hk (h := ⟨b, rfl, hS⟩)

theorem back1_any {ι : Type} {B : Bs} {w : World} {xs : List Int} {v : Value} {bv b : Nat} {fn : FuncId} {tmps : Array Value} {p q : Nat} {asg bod : Code} {D : Nat} (Ls : Nat → ι → List HP) (F : Nat → ι → Prop) (x0 : ι)
    (hS : St B (obj b (lrec fn tmps #[p, q] asg bod D .ready none) :: pts bv [v] 24 :: OwT 3 xs v :: Ls xs.length x0) w) (hF : F xs.length x0) (hl : xs.length ≤ 100000)
    (hround : ∀ (i : Nat) (y : ι) (id : Int) (w : World), xs[i]? = some id → i < xs.length → F (i + 1) y →
      St B (obj b (lrec fn tmps #[p, q] asg bod D .ready none) :: pts bv [v] 24 :: OwT 3 xs v :: Ls (i + 1) y) w →
      RoundIn Fence.wide 0 Try.prog b fn (((#[p, q] : Array Tmp).zip #[.int .i64 (i : Int), .int .i64 id]).foldl (fun t (s, u) => t.setIfInBounds s u) tmps) asg bod w
        (Ret fun u w' => u = .bool true ∧ ∃ y', St B (obj b (lrec fn tmps #[p, q] asg bod D .ready none) :: pts bv [v] 24 :: OwT 3 xs v :: Ls i y') w' ∧ F i y')) :
    Calls Try.prog 22 #[.func (.yield b) #[] #[], .pointer (some ⟨bv, 0, none⟩)] w
      (Ret fun _ w' => ∃ y, St B (obj b (lrec fn tmps #[p, q] asg bod D .ready none) :: pts bv [v] 24 :: OwT 3 xs v :: Ls 0 y) w' ∧ F 0 y) := by
  refine enter Try.func22 rfl Try.ntmps22 rfl (fun a hk => ?_)
  (repeat' (first | (show wpListIn _ _ _ _ _ (_ :: _) _ _; first | (refine wx1 ?_; clear hk a; intro a hk) | (refine wx2 ?_ ?_ <;> (intro hp; clear hk a; intro a hk)) | (refine wx3 ?_; clear hk hS a; intro w b hS a hk) | (refine wx4 ?_; clear hk hS a; intro w hS a hk) | (refine wx5 ?_; clear hk hS a; intro w v hS a hk) | fail) | refine wx0 ?_ | (refine s_end hk ?_; clear hk a; intro a hk) | fail))
  replace hk := Kn.kp [0, 1, 3] hk
  refine wp_while (fun x : Nat × ι => [(3, .int .i64 ((x.1 : Int) - 1))]) (fun x => obj b (lrec fn tmps #[p, q] asg bod D .ready none) :: pts bv [v] 24 :: OwT 3 xs v :: Ls x.1 x.2) (fun x => x.1 ≤ xs.length ∧ F x.1 x.2) (fun x => x.1) (xs.length, x0) hk (by repeat (first | exact trivial | refine ⟨rfl, ?_⟩)) hS ⟨Nat.le_refl _, hF⟩ ?_
  clear hk hS a hF
  rintro ⟨k, y⟩ a w hk hS ⟨hkl, hF⟩
  simp only at hk hS hkl hF
  cases k with
  | zero =>
    (repeat' (first | (show wpListIn _ _ _ _ _ (_ :: _) _ _; first | (refine wx1 ?_; clear hk a; intro a hk) | (refine wx2 ?_ ?_ <;> (intro hp; clear hk a; intro a hk)) | (refine wx3 ?_; clear hk hS a; intro w b hS a hk) | (refine wx4 ?_; clear hk hS a; intro w hS a hk) | (refine wx5 ?_; clear hk hS a; intro w v hS a hk) | fail) | refine wx0 ?_ | (refine s_end hk ?_; clear hk a; intro a hk) | fail))
    exact done0n hk (h := ⟨y, hS, hF⟩)
  | succ i =>
    obtain ⟨id, hx⟩ : ∃ x, xs[i]? = some x := ⟨_, List.getElem?_eq_getElem (by omega)⟩
    rw [show ((i + 1 : Nat) : Int) - 1 = (i : Int) by omega] at hk
    (repeat' (first | (show wpListIn _ _ _ _ _ (_ :: _) _ _; first | (refine wx1 ?_; clear hk a; intro a hk) | (refine wx2 ?_ ?_ <;> (intro hp; clear hk a; intro a hk)) | (refine wx3 ?_; clear hk hS a; intro w b hS a hk) | (refine wx4 ?_; clear hk hS a; intro w hS a hk) | (refine wx5 ?_; clear hk hS a; intro w v hS a hk) | fail) | refine wx0 ?_ | (refine s_end hk ?_; clear hk a; intro a hk) | fail))
    refine sg hk (g_yield hk hS (by (repeat (first | exact At.here | apply At.there))) (hround i y id w hx (by omega) hF hS) ?_ (hsz := rfl)); clear hk hS a
    rintro _ w ⟨rfl, y', hS, hF'⟩ a hk
    (repeat' (first | (show wpListIn _ _ _ _ _ (_ :: _) _ _; first | (refine wx1 ?_; clear hk a; intro a hk) | (refine wx2 ?_ ?_ <;> (intro hp; clear hk a; intro a hk)) | (refine wx3 ?_; clear hk hS a; intro w b hS a hk) | (refine wx4 ?_; clear hk hS a; intro w hS a hk) | (refine wx5 ?_; clear hk hS a; intro w v hS a hk) | fail) | refine wx0 ?_ | (refine s_end hk ?_; clear hk a; intro a hk) | fail))
    exact ⟨(i, y'), by simp only; omega, hk.sd, hS, by omega, hF'⟩

theorem wp_rangeB {ι : Type} {B : Bs} {w : World} {xs : List Int} {v : Value} {bv : Nat} {p q n : Nat} {asg bod : Code} {gop : Operand} {Q : Exit → Act → World → Prop} {a : Act} {l0 : List (Nat × Value)}
    (Ls : Nat → ι → List HP) (F : Nat → ι → Prop) (x0 : ι) (hk : Kn [] n a l0) (hS : St B (pts bv [v] 24 :: OwT 3 xs v :: Ls xs.length x0) w) (hF : F xs.length x0) (hl : xs.length ≤ 100000)
    (hround : ∀ (i : Nat) (y : ι) (id : Int) (fn b D : Nat) (tmps : Array Value) (w : World), xs[i]? = some id → i < xs.length → F (i + 1) y →
      St B (obj b (lrec fn tmps #[p, q] asg bod D .ready none) :: obj D (.deferred (some [])) :: pts bv [v] 24 :: OwT 3 xs v :: Ls (i + 1) y) w →
      ∀ a', Kn [] n a' ((q, .int .i64 id) :: (p, .int .i64 (i : Int)) :: l0) → asg.wpIn (FR (some b)) 0 Try.prog (Exit.then (BegK Try.prog b bod (Ret fun u w' => u = .bool true ∧
        ∃ y', St B (obj b (lrec fn tmps #[p, q] asg bod D .ready none) :: obj D (.deferred (some [])) :: pts bv [v] 24 :: OwT 3 xs v :: Ls i y') w' ∧ F i y')) (fun _ _ _ => False)) a' w)
    (hend : ∀ (y : ι) (D : Nat) (w : World), F 0 y → St B (obj D (.deferred (some [])) :: pts bv [v] 24 :: OwT 3 xs v :: Ls 0 y) w → ∀ a', Kn (mk_ D) n a' l0 → Q .normal a' w)
    (hg : ev l0 gop = some (.func (.func 22) #[] #[.pointer (some ⟨bv, 0, none⟩)]) := by rfl) (hp : Nat.blt p n = true := by rfl) (hq : Nat.blt q n = true := by rfl) :
    (Code.rangeFunc gop #[p, q] asg bod).wpIn (FR none) 0 Try.prog Q a w := by
  refine wp_rangeFunc (lb := [.pointer (some ⟨bv, 0, none⟩)]) (fun y => pts bv [v] 24 :: OwT 3 xs v :: Ls 0 y) (fun y => F 0 y) hk hS (fun fn b D w1 hS1 => ?_) (fun y D w hF hS => hend y D w hF hS) hg
  have hS2 : St B (obj b (lrec fn a.tmps #[p, q] asg bod D .ready none) :: pts bv [v] 24 :: OwT 3 xs v :: (fun i y => obj D (.deferred (some [])) :: Ls i y) xs.length x0) w1 :=
    hS1.sub (.cons .here (.cons (.there .here) (.cons (.there .here) .refl)))
  refine Calls.mono (back1_any (fun i y => obj D (.deferred (some [])) :: Ls i y) F x0 hS2 hF hl (fun i y id w hid hi hF hS => round2 hk hp hq (fun a' hk' => ?_)))
    (fun e w h => h.mono (fun v w ⟨y, hS, hF⟩ => ⟨y, hS.sub (.cons .here (.cons (.there (.there .here)) (.cons .here (.cons .here .refl)))), hF⟩))
  have h1 := hround i y id fn b D a.tmps w hid hi hF (hS.sub (.cons .here (.cons (.there (.there .here)) (.cons .here (.cons .here .refl))))) a' hk'
  exact beg_mono h1 (fun e w h => h.mono (fun u w ⟨h0, y', hS, hF⟩ => ⟨h0, y', hS.sub (.cons .here (.cons (.there .here) (.cons (.there .here) .refl))), hF⟩))
end Go.Proofs.Ytcahaaapmaahnaa
