import Derived.Test.YtkcjkbnbblpomaaV18
import Derived.Test.YtkcjkbnbblpomaaV21
import Derived.Test.YtkcjkbnbblpomaaV22
import Derived.Test.YtkcjkbnbblpomaaV23
import Derived.Test.YtkcjkbnbblpomaaV25
namespace Go.Proofs.Ytkcjkbnbblpomaa
open Go.RowKit
set_option maxRecDepth 100000
attribute [local irreducible] Go.Code.wpIn Go.wpListIn Go.Calls Gives Go.Exit.then Go.Exit.inBlock Done ObxE

abbrev txH (s : ByteArray) : NdH := (1, ⟨#[]⟩, ⟨#[]⟩, s, ⟨none, 0, 0⟩, ⟨none, 0, 0⟩, ⟨none, 0, 0⟩, (0, 0, 0, 0, false, false), ⟨none, 0, 0⟩)
abbrev txT (s : ByteArray) : Tree := .mk 1 ⟨#[]⟩ ⟨#[]⟩ s [] [] [] (0, 0, 0, 0, false, false) []
theorem leafR (w : World) (k : Int) (tag key text : ByteArray) (o : Opt) : TrR w (.mk k tag key text [] [] [] o []) (k, tag, key, text, ⟨none, 0, 0⟩, ⟨none, 0, 0⟩, ⟨none, 0, 0⟩, o, ⟨none, 0, 0⟩) :=
  .mk (SlT.nil (α := ByteArray) w) (SlT.nil (α := ByteArray × ByteArray) w) (SlT.nil (α := ByteArray × Int) w) (SlT.nil (α := NdH) w) rfl (fun i t h h1 _ => by simp at h1)
theorem awake1_any (s : ByteArray) (w0 : World) : Calls Try.prog 24 #[.string s] w0 (Ret fun v w => v = ndV (txH s) ∧ St w0 [] w) := by
  refine enter Try.func24 rfl Try.ntmps24 rfl (fun a hk => ?_); have hS := St.refl w0
  (repeat' (first | (show wpListIn _ _ _ _ _ (_ :: _) _ _; first | (refine wx1 ?_; clear hk a; intro a hk) | (refine wx2 ?_ ?_ <;> (intro hp; clear hk a; intro a hk)) | (refine wx3 ?_; clear hk hS a; intro w b hS a hk) | (refine wx4 ?_; clear hk hS a; intro w hS a hk) | (refine wx5 ?_; clear hk hS a; intro w v hS a hk) | fail) | refine wx0 ?_ | (refine s_end hk ?_; clear hk a; intro a hk) | fail))
  exact done1R hk rfl (.str hS (hT := aT rfl) (hs := zT rfl)) (h := ⟨rfl, hS.nil⟩)

abbrev aT0 : Tree := .mk 2 ⟨#[112]⟩ ⟨#[]⟩ ⟨#[]⟩ [] [] [] (0, 0, 0, 0, false, false) [txT ⟨#[97]⟩, txT ⟨#[]⟩, txT ⟨#[98]⟩]
theorem ab_txt : (⟨#[97]⟩ ++ ⟨#[98]⟩ : ByteArray) = ⟨#[97, 98]⟩ := by decide +kernel
theorem aT0_nrm : nrm aT0 = .mk 2 ⟨#[112]⟩ ⟨#[]⟩ ⟨#[]⟩ [] [] [] (0, 0, 0, 0, false, false) [txT ⟨#[97, 98]⟩] := by
  rw [← ab_txt]
  have e1 : nrm (txT ⟨#[97]⟩) = txT ⟨#[97]⟩ := by simp [nrm, nrmL, clnC, snapF, mrg]
  have e2 : nrm (txT ⟨#[98]⟩) = txT ⟨#[98]⟩ := by simp [nrm, nrmL, clnC, snapF, mrg]
  have v1 : ¬ (txT ⟨#[97]⟩).void := by simp [Tree.void, Tree.kind, Tree.text]
  have v2 : (txT ⟨#[]⟩).void := by simp [Tree.void, Tree.kind, Tree.text]
  have v3 : ¬ (txT ⟨#[98]⟩).void := by simp [Tree.void, Tree.kind, Tree.text]
  rw [aT0, nrm]
  simp only [nrmL, if_neg v1, if_pos v2, if_neg v3, e1, e2]
  rfl
theorem aT0_chk : chk7 aT0 9 9 = 0 := by decide +kernel
theorem bT0_chk : chk7 (.mk 2 ⟨#[]⟩ ⟨#[]⟩ ⟨#[]⟩ [] [] [] (0, 0, 0, 0, false, false) []) 9 9 = 4 := by decide +kernel
theorem aT0_cnt : cnt aT0 = 4 := by simp [cnt, cntL]
theorem aT0_fits : Fits aT0 := .mk (by simp) (by simp) (by simp) (by simp) (by
  intro t ht
  simp only [List.mem_cons, List.not_mem_nil, or_false] at ht
  rcases ht with rfl | rfl | rfl <;> exact .mk (by simp) (by simp) (by simp) (by simp) (by simp))
theorem aT0_fit : Fit 70 aT0 := .mk (by simp) (by simp) (by simp) (by simp) (by decide) (by
  intro t ht
  simp only [List.mem_cons, List.not_mem_nil, or_false] at ht
  rcases ht with rfl | rfl | rfl <;> exact .mk (by simp) (by simp) (by simp) (by simp) (by decide) (by simp))
theorem aT0_siz : Siz 1000000 aT0 := .mk (by decide) (by decide) (by decide) (by simp) (by simp) (by simp) (by
  intro t ht
  simp only [List.mem_cons, List.not_mem_nil, or_false] at ht
  rcases ht with rfl | rfl | rfl <;> exact .mk (by decide) (by decide) (by decide) (by simp) (by simp) (by simp) (by simp))

theorem aT0_for (g : World) : FoR g [txT ⟨#[97]⟩, txT ⟨#[]⟩, txT ⟨#[98]⟩] [txH ⟨#[97]⟩, txH ⟨#[]⟩, txH ⟨#[98]⟩] :=
  (((FoR.nil g).snoc (leafR g 1 ⟨#[]⟩ ⟨#[]⟩ ⟨#[97]⟩ (0, 0, 0, 0, false, false))).snoc (leafR g 1 ⟨#[]⟩ ⟨#[]⟩ ⟨#[]⟩ (0, 0, 0, 0, false, false))).snoc (leafR g 1 ⟨#[]⟩ ⟨#[]⟩ ⟨#[98]⟩ (0, 0, 0, 0, false, false))
theorem aT0_of {B : Bs} {L : List HP} {w : World} {ao : Option Addr} {c : Nat} (hS : St B (OwT 41 [txH ⟨#[97]⟩, txH ⟨#[]⟩, txH ⟨#[98]⟩] (.slice ao 3 c) :: L) w) :
    St B (treeR aT0 (2, ⟨#[112]⟩, ⟨#[]⟩, ⟨#[]⟩, ⟨none, 0, 0⟩, ⟨none, 0, 0⟩, ⟨none, 0, 0⟩, (0, 0, 0, 0, false, false), ⟨ao, 3, c⟩) :: L) w :=
  rdH.of (L1 := [OwT 41 [txH ⟨#[97]⟩, txH ⟨#[]⟩, txH ⟨#[98]⟩] (.slice ao 3 c)]) hS fun g hg =>
    .mk (SlT.nil (α := ByteArray) g) (SlT.nil (α := ByteArray × ByteArray) g) (SlT.nil (α := ByteArray × Int) g) (OwT.rd (hg (OwT 41 [txH ⟨#[97]⟩, txH ⟨#[]⟩, txH ⟨#[98]⟩] (.slice ao 3 c)) (by simp))) rfl (aT0_for g).2

set_option maxHeartbeats 8000000 in
theorem awake07_any (w0 : World) : Calls Try.prog 7 #[] w0 (Ret fun v w => v = .bool true ∧ St w0 [] w) := by
  have hc1 := fun h w0 hr => Check7_any aT0 h 9 9 w0 aT0_fits aT0_siz (by rw [aT0_cnt]; omega) hr
  have hc2 := fun w0 => Check7_any (.mk 2 ⟨#[]⟩ ⟨#[]⟩ ⟨#[]⟩ [] [] [] (0, 0, 0, 0, false, false) []) (2, ⟨#[]⟩, ⟨#[]⟩, ⟨#[]⟩, ⟨none, 0, 0⟩, ⟨none, 0, 0⟩, ⟨none, 0, 0⟩, (0, 0, 0, 0, false, false), ⟨none, 0, 0⟩) 9 9 w0 (.mk (by simp) (by simp) (by simp) (by simp) (by simp)) (.mk (by decide) (by decide) (by decide) (by simp) (by simp) (by simp) (by simp)) (by simp [cnt, cntL]) (leafR w0 _ _ _ _ _)
  rw [aT0_chk] at hc1
  rw [bT0_chk] at hc2
  have hs1 := fun h w0 hr => size_any aT0 h w0 ⟨aT0_fits, by rw [aT0_cnt]; omega⟩ hr
  rw [aT0_cnt] at hs1
  have hv1 := fun h w0 hr hr' => vsame_any (SizeOf.sizeOf aT0 + 1) aT0 aT0 h h w0 (by omega) aT0_fits aT0_fits hr hr'
  rw [sam_self] at hv1
  have hn1 := fun h w0 hr => normal_any 70 (by omega) (SizeOf.sizeOf aT0 + 1) aT0 h w0 (by omega) aT0_fit hr
  rw [aT0_nrm] at hn1
  refine enter Try.func7 rfl Try.ntmps7 rfl (fun a hk => ?_); have hS := St.refl w0
  (repeat' (first | (show wpListIn _ _ _ _ _ (_ :: _) _ _; first | (refine wx1 ?_; clear hk a; intro a hk) | (refine wx2 ?_ ?_ <;> (intro hp; clear hk a; intro a hk)) | (refine wx3 ?_; clear hk hS a; intro w b hS a hk) | (refine wx4 ?_; clear hk hS a; intro w hS a hk) | (refine wx5 ?_; clear hk hS a; intro w v hS a hk) | fail) | refine wx0 ?_ | (refine s_end hk ?_; clear hk a; intro a hk) | fail))
  refine sg hk (g_callvO hk (hf := by kernel_rfl) (hc := awake1_any ⟨#[97]⟩ _) (h := ?_)); clear hk a; rintro _ w ⟨rfl, hS1⟩ a hk; replace hS := hS.call0 hS1; clear hS1
  (repeat' (first | (show wpListIn _ _ _ _ _ (_ :: _) _ _; first | (refine wx1 ?_; clear hk a; intro a hk) | (refine wx2 ?_ ?_ <;> (intro hp; clear hk a; intro a hk)) | (refine wx3 ?_; clear hk hS a; intro w b hS a hk) | (refine wx4 ?_; clear hk hS a; intro w hS a hk) | (refine wx5 ?_; clear hk hS a; intro w v hS a hk) | fail) | refine wx0 ?_ | (refine s_end hk ?_; clear hk a; intro a hk) | fail))
  refine sg hk (g_callvO hk (hf := by kernel_rfl) (hc := awake1_any ⟨#[]⟩ _) (h := ?_)); clear hk a; rintro _ w ⟨rfl, hS1⟩ a hk; replace hS := hS.call0 hS1; clear hS1
  (repeat' (first | (show wpListIn _ _ _ _ _ (_ :: _) _ _; first | (refine wx1 ?_; clear hk a; intro a hk) | (refine wx2 ?_ ?_ <;> (intro hp; clear hk a; intro a hk)) | (refine wx3 ?_; clear hk hS a; intro w b hS a hk) | (refine wx4 ?_; clear hk hS a; intro w hS a hk) | (refine wx5 ?_; clear hk hS a; intro w v hS a hk) | fail) | refine wx0 ?_ | (refine s_end hk ?_; clear hk a; intro a hk) | fail))
  refine sg hk (g_callvO hk (hf := by kernel_rfl) (hc := awake1_any ⟨#[98]⟩ _) (h := ?_)); clear hk a; rintro _ w ⟨rfl, hS1⟩ a hk; replace hS := hS.call0 hS1; clear hS1
  refine sg hk (g_bsT (xs := [txH ⟨#[97]⟩, txH ⟨#[]⟩, txH ⟨#[98]⟩]) (m := 2) hk hS ?_ (hT := eT rfl) (hE := zT rfl) (hz := oT rfl)); clear hk hS a; intro w vk hS a hk
  obtain ⟨aovk, cvk, hshp, _⟩ := (OwT.rd (hS.rd (A := OwT 41 _ vk) (by (repeat (first | exact At.here | apply At.there))))).shape; subst hshp
  have hT := aT0_of (L := []) hS
  clear hS
  have hS := hT
  clear hT
  (repeat' (first | (show wpListIn _ _ _ _ _ (_ :: _) _ _; first | (refine wx1 ?_; clear hk a; intro a hk) | (refine wx2 ?_ ?_ <;> (intro hp; clear hk a; intro a hk)) | (refine wx3 ?_; clear hk hS a; intro w b hS a hk) | (refine wx4 ?_; clear hk hS a; intro w hS a hk) | (refine wx5 ?_; clear hk hS a; intro w v hS a hk) | fail) | refine wx0 ?_ | (refine s_end hk ?_; clear hk a; intro a hk) | fail))
  replace hk := Kn.kp [2, 12] hk
  replace hS : St w0 (pts b [.int .i64 2, .string ⟨#[112]⟩, .string ⟨#[]⟩, .string ⟨#[]⟩, .slice none 0 0, .slice none 0 0, .slice none 0 0, .int .i64 0, .int .i64 0, .int .i64 0, .int .i64 0, .bool false, .bool false, .slice aovk 3 cvk] 41 :: treeR aT0 (2, ⟨#[112]⟩, ⟨#[]⟩, ⟨#[]⟩, ⟨none, 0, 0⟩, ⟨none, 0, 0⟩, ⟨none, 0, 0⟩, (0, 0, 0, 0, false, false), ⟨aovk, 3, cvk⟩) :: []) w := hS.sub (by (repeat (first | exact Sub.nil | exact Sub.refl | refine Sub.cons (by (repeat (first | exact At.here | apply At.there))) ?_)))
  replace hk : Kn [] 48 a [(2, .pointer (some ⟨b, 0, none⟩)), (12, ndV (2, ⟨#[112]⟩, ⟨#[]⟩, ⟨#[]⟩, ⟨none, 0, 0⟩, ⟨none, 0, 0⟩, ⟨none, 0, 0⟩, (0, 0, 0, 0, false, false), ⟨aovk, 3, cvk⟩))] := hk
  rename Nat => b2
  refine sg hk (g_callO hk (hf := by kernel_rfl) (hc := hn1 (2, ⟨#[112]⟩, ⟨#[]⟩, ⟨#[]⟩, ⟨none, 0, 0⟩, ⟨none, 0, 0⟩, ⟨none, 0, 0⟩, (0, 0, 0, 0, false, false), ⟨aovk, 3, cvk⟩) _ (hS.trR (by (repeat (first | exact At.here | apply At.there))))) (h := ?_)); clear hk a; rintro vn w hS1 a hk; replace hS := hS.call hS1; clear hS1
  rw [List.cons_append, List.nil_append] at hS
  obtain ⟨hd1, rfl, hS1⟩ := St.tree hS .here
  clear hS
  have hS := hS1
  clear hS1
  obtain ⟨k1, tag1, key1, text1, cl1, al1, sl1, e1, lv1, m1', d1, p1, q1, kids1, B1, N1, B2, N2, B3, N3, B4, N4, H1, he1, rfl, -, -, -, -, hG⟩ := (hS.trR .here).split
  injection he1 with i1 i2 i3 i4 i5 i6 i7 i8 i9
  subst i1 i2 i3 i4 i5 i6 i7 i9
  injection i8 with j1 j2
  injection j2 with j2 j3
  injection j3 with j3 j4
  injection j4 with j4 j5
  injection j5 with j5 j6
  subst j1 j2 j3 j4 j5 j6
  have hH1 : H1.length = 1 := hG.1
  rw [hH1] at hS hk
  clear hn1 hG hH1 H1
  simp only [List.length_nil] at hk hS
  replace hk : Kn [] 48 a [(13, .agg #[.int .i64 2, .string ⟨#[112]⟩, .string ⟨#[]⟩, .string ⟨#[]⟩, .slice B1 0 N1, .slice B2 0 N2, .slice B3 0 N3, .int .i64 0, .int .i64 0, .int .i64 0, .int .i64 0, .bool false, .bool false, .slice B4 1 N4]), (2, .pointer (some ⟨b2, 0, none⟩))] := Kn.kp [13, 2] hk
  (repeat' (first | (show wpListIn _ _ _ _ _ (_ :: _) _ _; first | (refine wx1 ?_; clear hk a; intro a hk) | (refine wx2 ?_ ?_ <;> (intro hp; clear hk a; intro a hk)) | (refine wx3 ?_; clear hk hS a; intro w b hS a hk) | (refine wx4 ?_; clear hk hS a; intro w hS a hk) | (refine wx5 ?_; clear hk hS a; intro w v hS a hk) | fail) | refine wx0 ?_ | (refine s_end hk ?_; clear hk a; intro a hk) | fail))
  refine sg hk (g_callO hk (hf := by kernel_rfl) (hc := hc1 (2, ⟨#[112]⟩, ⟨#[]⟩, ⟨#[]⟩, ⟨none, 0, 0⟩, ⟨none, 0, 0⟩, ⟨none, 0, 0⟩, (0, 0, 0, 0, false, false), ⟨aovk, 3, cvk⟩) _ (hS.trR (t := aT0) (h := (2, ⟨#[112]⟩, ⟨#[]⟩, ⟨#[]⟩, ⟨none, 0, 0⟩, ⟨none, 0, 0⟩, ⟨none, 0, 0⟩, (0, 0, 0, 0, false, false), ⟨aovk, 3, cvk⟩)) (by (repeat (first | exact At.here | apply At.there))))) (h := ?_)); clear hk a; rintro _ w ⟨rfl, hS1⟩ a hk; replace hS := hS.call0 hS1; clear hS1
  (repeat' (first | (show wpListIn _ _ _ _ _ (_ :: _) _ _; first | (refine wx1 ?_; clear hk a; intro a hk) | (refine wx2 ?_ ?_ <;> (intro hp; clear hk a; intro a hk)) | (refine wx3 ?_; clear hk hS a; intro w b hS a hk) | (refine wx4 ?_; clear hk hS a; intro w hS a hk) | (refine wx5 ?_; clear hk hS a; intro w v hS a hk) | fail) | refine wx0 ?_ | (refine s_end hk ?_; clear hk a; intro a hk) | fail))
  refine sg hk (g_callO hk (hf := by kernel_rfl) (hc := hs1 (2, ⟨#[112]⟩, ⟨#[]⟩, ⟨#[]⟩, ⟨none, 0, 0⟩, ⟨none, 0, 0⟩, ⟨none, 0, 0⟩, (0, 0, 0, 0, false, false), ⟨aovk, 3, cvk⟩) _ (hS.trR (t := aT0) (h := (2, ⟨#[112]⟩, ⟨#[]⟩, ⟨#[]⟩, ⟨none, 0, 0⟩, ⟨none, 0, 0⟩, ⟨none, 0, 0⟩, (0, 0, 0, 0, false, false), ⟨aovk, 3, cvk⟩)) (by (repeat (first | exact At.here | apply At.there))))) (h := ?_)); clear hk a; rintro _ w ⟨rfl, hS1⟩ a hk; replace hS := hS.call0 hS1; clear hS1
  have hT := hS.trR (t := (.mk 2 ⟨#[112]⟩ ⟨#[]⟩ ⟨#[]⟩ [] [] [] (0, 0, 0, 0, false, false) [txT ⟨#[97, 98]⟩])) (h := (2, ⟨#[112]⟩, ⟨#[]⟩, ⟨#[]⟩, ⟨B1, 0, N1⟩, ⟨B2, 0, N2⟩, ⟨B3, 0, N3⟩, (0, 0, 0, 0, false, false), ⟨B4, 1, N4⟩)) (by (repeat (first | exact At.here | apply At.there)))
  obtain ⟨-, -, -, h4, hl, hr⟩ := hT
  rename_i H1
  have h4 : SlT H1 (.slice B4 1 N4) w := h4
  obtain ⟨hx, rfl⟩ := List.length_eq_one_iff.1 hl
  obtain ⟨k2, tag2, key2, text2, cl2, al2, sl2, e2, lv2, m2', d2, p2, q2, kids2, A1, M1, A2, M2, A3, M3, A4, M4, H2, he2, rfl, -⟩ := (hr 0 _ _ rfl rfl).split
  injection he2 with _ _ _ i4 _ _ _ _ _
  subst i4
  clear hr hl
  (repeat' (first | (show wpListIn _ _ _ _ _ (_ :: _) _ _; first | (refine wx1 ?_; clear hk a; intro a hk) | (refine wx2 ?_ ?_ <;> (intro hp; clear hk a; intro a hk)) | (refine wx3 ?_; clear hk hS a; intro w b hS a hk) | (refine wx4 ?_; clear hk hS a; intro w hS a hk) | (refine wx5 ?_; clear hk hS a; intro w v hS a hk) | fail) | refine wx0 ?_ | (refine s_end hk ?_; clear hk a; intro a hk) | fail))
  replace hk : Kn [] 48 a [(37, .agg #[.int .i64 2, .string ⟨#[]⟩, .string ⟨#[]⟩, .string ⟨#[]⟩, .slice none 0 0, .slice none 0 0, .slice none 0 0, .int .i64 0, .int .i64 0, .int .i64 0, .int .i64 0, .bool false, .bool false, .slice none 0 0]), (36, .bool true), (2, .pointer (some ⟨b2, 0, none⟩))] := Kn.kp [37, 36, 2] hk
  refine sg hk (g_callO hk (hf := by kernel_rfl) (hc := hc2 _) (h := ?_)); clear hk a; rintro _ w ⟨rfl, hS1⟩ a hk; replace hS := hS.call0 hS1; clear hS1
  (repeat' (first | (show wpListIn _ _ _ _ _ (_ :: _) _ _; first | (refine wx1 ?_; clear hk a; intro a hk) | (refine wx2 ?_ ?_ <;> (intro hp; clear hk a; intro a hk)) | (refine wx3 ?_; clear hk hS a; intro w b hS a hk) | (refine wx4 ?_; clear hk hS a; intro w hS a hk) | (refine wx5 ?_; clear hk hS a; intro w v hS a hk) | fail) | refine wx0 ?_ | (refine s_end hk ?_; clear hk a; intro a hk) | fail))
  refine sg hk (g_callO hk (hf := by kernel_rfl) (hc := hv1 (2, ⟨#[112]⟩, ⟨#[]⟩, ⟨#[]⟩, ⟨none, 0, 0⟩, ⟨none, 0, 0⟩, ⟨none, 0, 0⟩, (0, 0, 0, 0, false, false), ⟨aovk, 3, cvk⟩) _ (hS.trR (t := aT0) (h := (2, ⟨#[112]⟩, ⟨#[]⟩, ⟨#[]⟩, ⟨none, 0, 0⟩, ⟨none, 0, 0⟩, ⟨none, 0, 0⟩, (0, 0, 0, 0, false, false), ⟨aovk, 3, cvk⟩)) (by (repeat (first | exact At.here | apply At.there)))) (hS.trR (t := aT0) (h := (2, ⟨#[112]⟩, ⟨#[]⟩, ⟨#[]⟩, ⟨none, 0, 0⟩, ⟨none, 0, 0⟩, ⟨none, 0, 0⟩, (0, 0, 0, 0, false, false), ⟨aovk, 3, cvk⟩)) (by (repeat (first | exact At.here | apply At.there))))) (h := ?_)); clear hk a; rintro _ w ⟨rfl, hS1⟩ a hk; replace hS := hS.call0 hS1; clear hS1
  (repeat' (first | (show wpListIn _ _ _ _ _ (_ :: _) _ _; first | (refine wx1 ?_; clear hk a; intro a hk) | (refine wx2 ?_ ?_ <;> (intro hp; clear hk a; intro a hk)) | (refine wx3 ?_; clear hk hS a; intro w b hS a hk) | (refine wx4 ?_; clear hk hS a; intro w hS a hk) | (refine wx5 ?_; clear hk hS a; intro w v hS a hk) | fail) | refine wx0 ?_ | (refine s_end hk ?_; clear hk a; intro a hk) | fail))
  exact done1 hk (h := ⟨rfl, hS.nil⟩)
end Go.Proofs.Ytkcjkbnbblpomaa
namespace Go.Proofs.Ytkcjkbnbblpomaa
open Go.RowKit

theorem Tree.ind {P : Tree → Prop} (h : ∀ (k : Int) (tag key text : ByteArray) (cl : List ByteArray) (al : List (ByteArray × ByteArray)) (sl : List (ByteArray × Int)) (o : Opt) (kids : List Tree), (∀ t ∈ kids, P t) → P (.mk k tag key text cl al sl o kids)) (t : Tree) : P t := by
  have : ∀ (n : Nat) (t : Tree), SizeOf.sizeOf t < n → P t := by
    intro n
    induction n with
    | zero => intro t h; omega
    | succ n ih =>
      intro t ht
      obtain ⟨k, tag, key, text, cl, al, sl, o, kids⟩ := t
      exact h _ _ _ _ _ _ _ _ _ fun u hu => ih u (by have := kid_lt (k := k) (tag := tag) (key := key) (text := text) (cl := cl) (at_ := al) (st := sl) (o := o) hu; omega)
  exact this _ t (Nat.lt_succ_self _)

open Classical in
theorem cln_nodup (l : List ByteArray) : (clnC l).Nodup := by
  have : ∀ r : List ByteArray, (clnC r.reverse).Nodup := by
    intro r
    induction r with
    | nil => simp [clnC]
    | cons c r ih =>
      rw [List.reverse_cons, clnC_snoc]
      unfold addC
      split
      · exact ih
      · rename_i hn
        rw [List.nodup_append]
        refine ⟨ih, by simp, fun a ha b hb => ?_⟩
        rw [List.mem_singleton] at hb
        subst hb
        intro e
        subst e
        exact hn ha
  have := this l.reverse
  rwa [List.reverse_reverse] at this
open Classical in
theorem cln_of_nodup (l : List ByteArray) (h : l.Nodup) : clnC l = l := by
  have : ∀ r : List ByteArray, r.reverse.Nodup → clnC r.reverse = r.reverse := by
    intro r
    induction r with
    | nil => intro _; rfl
    | cons c r ih =>
      intro hd
      rw [List.reverse_cons] at hd ⊢
      rw [List.nodup_append] at hd
      rw [clnC_snoc, ih hd.1]
      unfold addC
      rw [if_neg]
      intro hm
      exact hd.2.2 c hm c (by simp) rfl
  have := this l.reverse (by simpa using h)
  rwa [List.reverse_reverse] at this
theorem cln_cln (l : List ByteArray) : clnC (clnC l) = clnC l := cln_of_nodup _ (cln_nodup l)
open Classical in
theorem cln_sub (l : List ByteArray) : ∀ c ∈ clnC l, c ∈ l := by
  have : ∀ r : List ByteArray, ∀ c ∈ clnC r.reverse, c ∈ r.reverse := by
    intro r
    induction r with
    | nil => simp [clnC]
    | cons x r ih =>
      intro c hc
      rw [List.reverse_cons, clnC_snoc] at hc
      rw [List.reverse_cons]
      unfold addC at hc
      split at hc
      · exact List.mem_append_left _ (ih c hc)
      · rcases List.mem_append.1 hc with h | h
        · exact List.mem_append_left _ (ih c h)
        · exact List.mem_append_right _ h
  have := this l.reverse
  rwa [List.reverse_reverse] at this
theorem mrgS_nil (t : Tree) : mrgS [] t = [t] := rfl
theorem mrg_mrg (l : List Tree) : mrg (mrg l) = mrg l := by
  have : ∀ r : List Tree, mrg (mrg r.reverse) = mrg r.reverse := by
    intro r
    induction r with
    | nil => rfl
    | cons t r ih =>
      rw [List.reverse_cons, mrg_snoc]
      generalize mrg r.reverse = m at ih
      rcases List.eq_nil_or_concat m with e | ⟨M, u, e⟩
      · rw [e]; rfl
      · rw [List.concat_eq_append] at e
        subst e
        rw [mrgS_app]
        by_cases hc : t.kind = 1 ∧ u.kind = 1
        · rw [if_pos hc, mrg_snoc]
          rw [mrg_snoc] at ih
          have hl := mrg_len M
          rcases List.eq_nil_or_concat (mrg M) with e2 | ⟨M2, u2, e2⟩
          · rw [e2, mrgS_nil] at ih
            rw [e2, mrgS_nil]
            have : M = [] := by cases M with | nil => rfl | cons x M => simp at ih
            rw [this]; rfl
          · rw [List.concat_eq_append] at e2
            rw [e2, mrgS_app] at ih
            rw [e2, mrgS_app]
            by_cases hc2 : u.kind = 1 ∧ u2.kind = 1
            · rw [if_pos hc2] at ih
              have h1 := congrArg List.length ih
              have h2 := congrArg List.length e2
              simp only [List.length_append, List.length_singleton] at h1 h2
              omega
            · rw [if_neg hc2] at ih
              rw [if_neg (by rw [plus_kind]; exact hc2)]
              have h1 := List.append_inj_left' ih rfl
              rw [h1]
        · rw [if_neg hc, mrg_snoc, ih, mrgS_app, if_neg hc]
  have := this l.reverse
  rwa [List.reverse_reverse] at this
theorem nrm_plus (t : Tree) (x : ByteArray) : nrm (t.plus x) = (nrm t).plus x := by
  obtain ⟨k, tag, key, text, cl, al, sl, o, kids⟩ := t
  simp only [Tree.plus, nrm]
theorem mrg_mem {P : Tree → Prop} (hp : ∀ t x, P t → P (t.plus x)) (l : List Tree) (h : ∀ t ∈ l, P t) : ∀ t ∈ mrg l, P t := by
  have : ∀ r : List Tree, (∀ t ∈ r, P t) → ∀ t ∈ mrg r.reverse, P t := by
    intro r
    induction r with
    | nil => intro _ t ht; simp [mrg] at ht
    | cons u r ih =>
      intro hr t ht
      have ih := ih fun t ht => hr t (by simp [ht])
      rw [List.reverse_cons, mrg_snoc] at ht
      unfold mrgS at ht
      split at ht
      · rename_i u0 hu0
        split at ht
        · rcases List.mem_append.1 ht with h | h
          · exact ih t ((List.dropLast_sublist _).subset h)
          · rw [List.mem_singleton] at h
            subst h
            exact hp _ _ (ih u0 (List.mem_of_getLast? hu0))
        · rcases List.mem_append.1 ht with h | h
          · exact ih t h
          · rw [List.mem_singleton] at h; subst h; exact hr t (by simp)
      · rcases List.mem_append.1 ht with h | h
        · exact ih t h
        · rw [List.mem_singleton] at h; subst h; exact hr t (by simp)
  have := this l.reverse (fun t ht => h t (by simpa using ht))
  rwa [List.reverse_reverse] at this
theorem emp_app {a b : ByteArray} (h : a ++ b = ⟨#[]⟩) : a = ⟨#[]⟩ := by
  have e := congrArg ByteArray.size h
  rw [ByteArray.size_append] at e
  have e2 : ByteArray.size ⟨#[]⟩ = 0 := rfl
  cases a with
  | mk d =>
    congr 1
    refine Array.eq_empty_of_size_eq_zero ?_
    have e3 : (ByteArray.mk d).size = d.size := rfl
    omega
theorem void_plus {t : Tree} {x : ByteArray} (h : ¬ t.void) : ¬ (t.plus x).void := by
  intro hv
  refine h ⟨?_, ?_⟩
  · rw [← plus_kind t x]; exact hv.1
  · have := hv.2
    rw [plus_text] at this
    exact emp_app this
theorem nrmL_fix : ∀ (l : List Tree), (∀ t ∈ l, ¬ t.void ∧ nrm t = t) → nrmL l = l
  | [], _ => by simp [nrmL]
  | t :: ts, h => by
    rw [nrmL, if_neg (h t (by simp)).1, (h t (by simp)).2, nrmL_fix ts (fun u hu => h u (by simp [hu]))]
theorem nrmL_mem2 : ∀ {ts : List Tree} {u : Tree}, u ∈ nrmL ts → ∃ t ∈ ts, ¬ t.void ∧ u = nrm t
  | t :: ts, u, h => by
    rw [nrmL] at h
    split at h
    · obtain ⟨x, hx, e⟩ := nrmL_mem2 h
      exact ⟨x, by simp [hx], e⟩
    · rename_i hv
      rcases List.mem_cons.1 h with h | h
      · exact ⟨t, by simp, hv, h⟩
      · obtain ⟨x, hx, e⟩ := nrmL_mem2 h
        exact ⟨x, by simp [hx], e⟩
theorem nrm_void (t : Tree) : (nrm t).void ↔ t.void := by unfold Tree.void; rw [nrm_kind, nrm_text]
theorem nrm_nrm (t : Tree) : nrm (nrm t) = nrm t := by
  induction t using Tree.ind with
  | h k tag key text cl al sl o kids ih =>
    rw [nrm, nrm, cln_cln, snap_snap, snap_snap]
    congr 1
    rw [nrmL_fix, mrg_mrg]
    refine mrg_mem (P := fun t => ¬ t.void ∧ nrm t = t) (fun t x h => ⟨void_plus h.1, by rw [nrm_plus, h.2]⟩) _ fun u hu => ?_
    obtain ⟨t, ht, hv, rfl⟩ := nrmL_mem2 hu
    exact ⟨by rw [nrm_void]; exact hv, ih t ht⟩

theorem cnt_plus (t : Tree) (x : ByteArray) : cnt (t.plus x) = cnt t := by cases t; simp only [Tree.plus, cnt]
theorem dep_plus (t : Tree) (x : ByteArray) : dep (t.plus x) = dep t := by cases t; simp only [Tree.plus, dep]
theorem lng_plus (t : Tree) (x : ByteArray) : lng (t.plus x) = lng t := by
  obtain ⟨k, tag, key, text, cl, al, sl, ⟨e, lv, m, d, p, q⟩, kids⟩ := t
  simp only [Tree.plus, lng]
theorem mrg_cnt (l : List Tree) : cntL (mrg l) ≤ cntL l ∧ depL (mrg l) ≤ depL l := by
  have : ∀ r : List Tree, cntL (mrg r.reverse) ≤ cntL r.reverse ∧ depL (mrg r.reverse) ≤ depL r.reverse := by
    intro r
    induction r with
    | nil => simp [mrg]
    | cons t r ih =>
      rw [List.reverse_cons, mrg_snoc, cntL_snoc, depL_snoc]
      have ht := cnt_pos t
      unfold mrgS
      split
      · rename_i u hu
        have e := last_split hu
        have e1 := congrArg cntL e
        have e2 := congrArg depL e
        rw [cntL_snoc] at e1
        rw [depL_snoc] at e2
        split
        · rw [cntL_snoc, depL_snoc, cnt_plus, dep_plus]; omega
        · rw [cntL_snoc, depL_snoc]; omega
      · rw [cntL_snoc, depL_snoc]; omega
  have := this l.reverse
  rwa [List.reverse_reverse] at this
theorem nrmL_cnt : ∀ (l : List Tree), (∀ t ∈ l, cnt (nrm t) ≤ cnt t ∧ dep (nrm t) ≤ dep t) → cntL (nrmL l) ≤ cntL l ∧ depL (nrmL l) ≤ depL l
  | [], _ => by simp [nrmL]
  | t :: ts, h => by
    have ih := nrmL_cnt ts fun u hu => h u (by simp [hu])
    have ht := h t (by simp)
    rw [nrmL]
    split
    · simp only [cntL, depL]; omega
    · simp only [cntL, depL]; omega
theorem nrm_cnt (t : Tree) : cnt (nrm t) ≤ cnt t ∧ dep (nrm t) ≤ dep t := by
  induction t using Tree.ind with
  | h k tag key text cl al sl o kids ih =>
    have h1 := mrg_cnt (nrmL kids)
    have h2 := nrmL_cnt kids ih
    simp only [nrm, cnt, dep]
    omega

def lookS (s : ByteArray) : Bool := s.data.toList.all priB
theorem txt_look (s : ByteArray) : txtS s = (decide (s.size ≤ 64) && lookS s) := rfl
theorem look_app (a b : ByteArray) : lookS (a ++ b) = (lookS a && lookS b) := by
  unfold lookS
  rw [ByteArray.data_append, Array.toList_append, List.all_append]
def mayR (k : Int) (tag key text : ByteArray) (cl : List ByteArray) (al : List PrS) (sl : List PrI) (o : Opt) (kids : List Tree) : Bool :=
  if k = 1 then bareB tag key cl al sl o kids && lookS text
  else if k = 2 ∨ k = 3 ∨ k = 4 then decide (text = ⟨#[]⟩) && nameS tag && (namesL cl al sl).all nameS && (decide (key = ⟨#[]⟩) || keyS key) && valB al sl && optsB o k && keptB k kids
  else false
theorem mayB_R {k : Int} {tag key text : ByteArray} {cl : List ByteArray} {al : List PrS} {sl : List PrI} {o : Opt} {kids : List Tree} : mayB k tag key text cl al sl o kids = true ↔ mayR k tag key text cl al sl o kids = true ∧ text.size ≤ 64 := by
  unfold mayB mayR
  split
  · rw [txt_look]
    simp only [Bool.and_eq_true, decide_eq_true_eq]
    constructor
    · rintro ⟨h1, h2, h3⟩; exact ⟨⟨h1, h3⟩, h2⟩
    · rintro ⟨⟨h1, h3⟩, h2⟩; exact ⟨h1, h2, h3⟩
  · split
    · constructor
      · intro h
        refine ⟨h, ?_⟩
        simp only [Bool.and_eq_true, decide_eq_true_eq] at h
        have : text = ⟨#[]⟩ := h.1.1.1.1.1.1
        subst this
        decide
      · exact fun h => h.1
    · simp
inductive OkR : Tree → Prop
  | mk {k : Int} {tag key text : ByteArray} {cl : List ByteArray} {al : List PrS} {sl : List PrI} {o : Opt} {kids : List Tree}
    (h1 : mayR k tag key text cl al sl o kids = true) (h2 : (namesL cl al sl).any rsvS = false) (h3 : twcB (kids.map Tree.key) = false) (h4 : ∀ t ∈ kids, OkR t) : OkR (.mk k tag key text cl al sl o kids)
mutual
def shortT : Tree → Bool
  | .mk _ _ _ text _ _ _ _ kids => shortL kids && decide (text.size ≤ 64)
def shortL : List Tree → Bool
  | [] => true
  | t :: ts => shortT t && shortL ts
end
theorem shortL_iff : ∀ ts, shortL ts = true ↔ ∀ t ∈ ts, shortT t = true
  | [] => by simp [shortL]
  | t :: ts => by rw [shortL, Bool.and_eq_true, shortL_iff ts]; simp
theorem chk_okR (t : Tree) : ∀ (deep depth left : Int), (chkT t deep depth left).1 = 0 → OkR t ∧ deep + dep t - 1 ≤ depth ∧ (cnt t : Int) ≤ left ∧ (chkT t deep depth left).2 = left - cnt t := by
  induction t using Tree.ind with
  | h k tag key text cl al sl o kids ih =>
    intro deep depth left h
    rw [chkT] at h ⊢
    split at h
    · cases h
    · split at h
      · cases h
      · split at h
        · cases h
        · split at h
          · cases h
          · split at h
            · cases h
            · rename_i c1 c2 c3 c4 c5
              rw [if_neg c1, if_neg c2, if_neg c3, if_neg c4, if_neg c5]
              have hL : ∀ (ts : List Tree), (∀ t ∈ ts, t ∈ kids) → ∀ left : Int, 0 ≤ left → (chkL ts (deep + 1) depth left).1 = 0 → (∀ t ∈ ts, OkR t) ∧ (ts ≠ [] → deep + 1 + depL ts - 1 ≤ depth) ∧ (cntL ts : Int) ≤ left ∧ (chkL ts (deep + 1) depth left).2 = left - cntL ts := by
                intro ts
                induction ts with
                | nil => intro _ left hl _; simp [chkL, cntL, hl]
                | cons u us ihs =>
                  intro hm left hl h
                  rw [chkL] at h ⊢
                  by_cases hc : (chkT u (deep + 1) depth left).1 = 0
                  · rw [if_pos hc] at h ⊢
                    obtain ⟨a1, a2, a3, a4⟩ := ih u (hm u (by simp)) _ _ _ hc
                    have hu := cnt_pos u
                    rw [a4] at h ⊢
                    obtain ⟨b1, b2, b3, b4⟩ := ihs (fun t ht => hm t (by simp [ht])) _ (by omega) h
                    refine ⟨fun t ht => ?_, fun _ => ?_, ?_, ?_⟩
                    · rcases List.mem_cons.1 ht with rfl | ht
                      · exact a1
                      · exact b1 t ht
                    · simp only [depL]
                      cases us with
                      | nil => simp only [depL]; omega
                      | cons x xs => have := b2 (by simp); omega
                    · simp only [cntL]; omega
                    · rw [b4]; simp only [cntL]; omega
                  · rw [if_neg hc] at h
                    exact absurd h hc
              obtain ⟨b1, b2, b3, b4⟩ := hL kids (fun _ h => h) _ (by omega) h
              refine ⟨.mk ((mayB_R.1 (by simpa using c3)).1) (by simpa using c4) (by simpa using c5) b1, ?_, ?_, ?_⟩
              · simp only [dep]
                cases kids with
                | nil => simp only [depL]; omega
                | cons x xs => have := b2 (by simp); omega
              · simp only [cnt]; omega
              · rw [b4]; simp only [cnt]; omega
theorem okR_chk (t : Tree) : OkR t → ∀ (deep depth left : Int), deep + dep t - 1 ≤ depth → (cnt t : Int) ≤ left →
    ((chkT t deep depth left).1 = 0 ∧ (chkT t deep depth left).2 = left - cnt t) ∨ ((chkT t deep depth left).1 = 4 ∧ shortT t = false) := by
  induction t using Tree.ind with
  | h k tag key text cl al sl o kids ih =>
    intro ho deep depth left hd hc
    cases ho with
    | mk h1 h2 h3 h4 =>
      simp only [dep] at hd
      simp only [cnt] at hc ⊢
      rw [chkT, if_neg (by omega), if_neg (by omega)]
      by_cases hm : mayB k tag key text cl al sl o kids = false
      · rw [if_pos hm]
        refine .inr ⟨rfl, ?_⟩
        have : ¬ text.size ≤ 64 := fun h => by rw [mayB_R.2 ⟨h1, h⟩] at hm; cases hm
        simp [shortT, this]
      · rw [if_neg hm, if_neg (by rw [h2]; simp), if_neg (by rw [h3]; simp)]
        have hL : ∀ (ts : List Tree), (∀ t ∈ ts, t ∈ kids) → ∀ left : Int, (deep + 1) + depL ts - 1 ≤ depth → (cntL ts : Int) ≤ left →
            ((chkL ts (deep + 1) depth left).1 = 0 ∧ (chkL ts (deep + 1) depth left).2 = left - cntL ts) ∨ ((chkL ts (deep + 1) depth left).1 = 4 ∧ shortL ts = false) := by
          intro ts
          induction ts with
          | nil => intro _ left _ _; simp [chkL, cntL]
          | cons u us ihs =>
            intro hm left hd hc
            simp only [depL] at hd
            simp only [cntL] at hc ⊢
            rw [chkL]
            rcases ih u (hm u (by simp)) (h4 u (hm u (by simp))) (deep + 1) depth left (by omega) (by omega) with ⟨a1, a2⟩ | ⟨a1, a2⟩
            · rw [if_pos a1, a2]
              rcases ihs (fun t ht => hm t (by simp [ht])) (left - cnt u) (by omega) (by omega) with ⟨b1, b2⟩ | ⟨b1, b2⟩
              · exact .inl ⟨b1, by rw [b2]; omega⟩
              · exact .inr ⟨b1, by simp [shortL, b2]⟩
            · rw [if_neg (by rw [a1]; decide)]
              exact .inr ⟨a1, by simp [shortL, a2]⟩
        rcases hL kids (fun _ h => h) (left - 1) (by omega) (by omega) with ⟨b1, b2⟩ | ⟨b1, b2⟩
        · exact .inl ⟨b1, by rw [b2]; omega⟩
        · exact .inr ⟨b1, by simp [shortT, b2]⟩

def kk (t : Tree) : Int × ByteArray := (t.kind, t.key)
theorem plus_key (t : Tree) (x : ByteArray) : (t.plus x).key = t.key := by cases t; rfl
theorem nrm_key (t : Tree) : (nrm t).key = t.key := by cases t; simp [nrm, Tree.key]
theorem kk_plus (t : Tree) (x : ByteArray) : kk (t.plus x) = kk t := by unfold kk; rw [plus_kind, plus_key]
theorem kk_nrm (t : Tree) : kk (nrm t) = kk t := by unfold kk; rw [nrm_kind, nrm_key]
theorem mrg_kk (l : List Tree) : ((mrg l).map kk).Sublist (l.map kk) := by
  have : ∀ r : List Tree, ((mrg r.reverse).map kk).Sublist (r.reverse.map kk) := by
    intro r
    induction r with
    | nil => exact List.Sublist.refl _
    | cons t r ih =>
      rw [List.reverse_cons, mrg_snoc, List.map_append]
      have key : ∀ m : List Tree, (m.map kk).Sublist (r.reverse.map kk) → ((m ++ [t]).map kk).Sublist (r.reverse.map kk ++ [t].map kk) := by
        intro m hm
        rw [List.map_append]
        exact hm.append (List.Sublist.refl _)
      unfold mrgS
      split
      · rename_i u hu
        split
        · have e := congrArg (List.map kk) (last_split hu)
          rw [List.map_append] at e
          rw [List.map_append]
          have e2 : [u.plus t.text].map kk = [u].map kk := by simp [kk_plus]
          rw [e2, ← e]
          exact ih.trans (List.sublist_append_left _ _)
        · exact key _ ih
      · exact key _ ih
  have := this l.reverse
  rwa [List.reverse_reverse] at this
theorem nrmL_kk : ∀ (l : List Tree), ((nrmL l).map kk).Sublist (l.map kk)
  | [] => by simp [nrmL]
  | t :: ts => by
    rw [nrmL, List.map_cons]
    split
    · exact (nrmL_kk ts).trans (List.sublist_cons_self _ _)
    · rw [List.map_cons, kk_nrm]
      exact (nrmL_kk ts).cons_cons _
theorem shown_kk (l : List Tree) : ((mrg (nrmL l)).map kk).Sublist (l.map kk) := (mrg_kk _).trans (nrmL_kk _)
theorem twc_sub {a b : List ByteArray} (h : a.Sublist b) (hb : twcB b = false) : twcB a = false := by
  unfold twcB at *
  rw [List.any_eq_false] at *
  intro c hc
  have hb := hb c (h.subset hc)
  simp only [decide_eq_true_eq, not_and, Nat.not_lt] at hb ⊢
  intro h0
  exact Nat.le_trans (List.Sublist.countP_le h) (hb h0)
theorem kidB_kk (t : Tree) : kidB t = (fun x : Int × ByteArray => decide (x.1 = 2 ∧ x.2 ≠ ⟨#[]⟩)) (kk t) := rfl
theorem kept_sub {k : Int} {a b : List Tree} (h : (a.map kk).Sublist (b.map kk)) (hb : keptB k b = true) : keptB k a = true := by
  unfold keptB at *
  simp only [Bool.or_eq_true, Bool.and_eq_true, decide_eq_true_eq, List.all_eq_true] at *
  have hl : a.length ≤ b.length := by simpa using h.length_le
  rcases hb with hb | ⟨hb1, hb2⟩
  · exact .inl hb
  · refine .inr ⟨fun t ht => ?_, ?_⟩
    · have hm : kk t ∈ b.map kk := h.subset (List.mem_map.2 ⟨t, ht, rfl⟩)
      obtain ⟨u, hu, e⟩ := List.mem_map.1 hm
      rw [kidB_kk, ← e, ← kidB_kk]
      exact hb1 u hu
    · rcases hb2 with h | h
      · exact .inl h
      · exact .inr (by omega)
theorem snap_sub {κ α : Type} [Lin κ] [DecidableEq κ] (key : α → κ) (l : List α) : ∀ x ∈ snapF key l, x ∈ l := fun _ hx => last_mem key ((snap_last key).1 hx)
theorem names_sub {cl : List ByteArray} {al : List PrS} {sl : List PrI} : ∀ c ∈ namesL (clnC cl) (snapF nmS al) (snapF nmI sl), c ∈ namesL cl al sl := by
  intro c hc
  unfold namesL at *
  rcases List.mem_append.1 hc with h | h
  · rcases List.mem_append.1 h with h | h
    · exact List.mem_append_left _ (List.mem_append_left _ (cln_sub _ c h))
    · obtain ⟨x, hx, rfl⟩ := List.mem_map.1 h
      exact List.mem_append_left _ (List.mem_append_right _ (List.mem_map.2 ⟨x, snap_sub nmS _ x hx, rfl⟩))
  · obtain ⟨x, hx, rfl⟩ := List.mem_map.1 h
    exact List.mem_append_right _ (List.mem_map.2 ⟨x, snap_sub nmI _ x hx, rfl⟩)
theorem mayR_nrm {k : Int} {tag key text : ByteArray} {cl : List ByteArray} {al : List PrS} {sl : List PrI} {o : Opt} {kids : List Tree} (h : mayR k tag key text cl al sl o kids = true) :
    mayR k tag key text (clnC cl) (snapF nmS al) (snapF nmI sl) o (mrg (nrmL kids)) = true := by
  unfold mayR at *
  split at h
  · rename_i hk
    rw [if_pos hk]
    rw [Bool.and_eq_true] at h ⊢
    refine ⟨?_, h.2⟩
    have h1 := h.1
    unfold bareB at *
    simp only [decide_eq_true_eq] at *
    have e1 := clnC_le cl
    have e2 := snap_len nmS al
    have e3 := snap_len nmI sl
    have e4 := mrg_len (nrmL kids)
    have e5 := nrmL_len kids
    exact ⟨h1.1, h1.2.1, by omega, h1.2.2.2⟩
  · rename_i hk
    rw [if_neg hk]
    split at h
    · rename_i hk2
      rw [if_pos hk2]
      simp only [Bool.and_eq_true] at h ⊢
      obtain ⟨⟨⟨⟨⟨⟨a1, a2⟩, a3⟩, a4⟩, a5⟩, a6⟩, a7⟩ := h
      refine ⟨⟨⟨⟨⟨⟨a1, a2⟩, ?_⟩, a4⟩, ?_⟩, a6⟩, kept_sub (shown_kk kids) a7⟩
      · rw [List.all_eq_true] at *
        exact fun c hc => a3 c (names_sub c hc)
      · unfold valB at *
        rw [Bool.and_eq_true, List.all_eq_true, List.all_eq_true] at *
        exact ⟨fun x hx => a5.1 x (snap_sub nmS _ x hx), fun x hx => a5.2 x (snap_sub nmI _ x hx)⟩
    · cases h
theorem key_kk (l : List Tree) : l.map Tree.key = (l.map kk).map (·.2) := by rw [List.map_map]; rfl
theorem OkR.plus {t u : Tree} (h : OkR t) (hu : OkR u) (ht : t.kind = 1) (hk : u.kind = 1) : OkR (u.plus t.text) := by
  cases h with
  | @mk k tag key text cl al sl o kids h1 h2 h3 h4 =>
    cases hu with
    | @mk k' tag' key' text' cl' al' sl' o' kids' g1 g2 g3 g4 =>
      have e1 : k = 1 := ht
      have e2 : k' = 1 := hk
      subst e1 e2
      refine .mk ?_ g2 g3 g4
      unfold mayR at *
      rw [if_pos rfl, Bool.and_eq_true] at *
      exact ⟨g1.1, by rw [look_app, g1.2]; exact h1.2⟩
theorem mrg_okR (l : List Tree) (h : ∀ t ∈ l, OkR t) : ∀ t ∈ mrg l, OkR t := by
  have : ∀ r : List Tree, (∀ t ∈ r, OkR t) → ∀ t ∈ mrg r.reverse, OkR t := by
    intro r
    induction r with
    | nil => intro _ t ht; simp [mrg] at ht
    | cons u r ih =>
      intro hr t ht
      have ih := ih fun t ht => hr t (by simp [ht])
      rw [List.reverse_cons, mrg_snoc] at ht
      unfold mrgS at ht
      split at ht
      · rename_i u0 hu0
        split at ht
        · rename_i hc
          rcases List.mem_append.1 ht with h | h
          · exact ih t ((List.dropLast_sublist _).subset h)
          · rw [List.mem_singleton] at h
            subst h
            exact (hr u (by simp)).plus (ih u0 (List.mem_of_getLast? hu0)) hc.1 hc.2
        · rcases List.mem_append.1 ht with h | h
          · exact ih t h
          · rw [List.mem_singleton] at h; subst h; exact hr t (by simp)
      · rcases List.mem_append.1 ht with h | h
        · exact ih t h
        · rw [List.mem_singleton] at h; subst h; exact hr t (by simp)
  have := this l.reverse (fun t ht => h t (by simpa using ht))
  rwa [List.reverse_reverse] at this
theorem OkR.nrm {t : Tree} (h : OkR t) : OkR (nrm t) := by
  induction t using Tree.ind with
  | h k tag key text cl al sl o kids ih =>
    cases h with
    | mk h1 h2 h3 h4 =>
      rw [Proofs.Ytkcjkbnbblpomaa.nrm]
      refine .mk (mayR_nrm h1) ?_ ?_ (mrg_okR _ fun u hu => ?_)
      · rw [List.any_eq_false] at *
        exact fun c hc => h2 c (names_sub c hc)
      · refine twc_sub ?_ h3
        rw [key_kk, key_kk]
        exact (shown_kk kids).map _
      · obtain ⟨t, ht, rfl⟩ := nrmL_mem hu
        exact ih t ht (h4 t ht)
theorem lng_one {t : Tree} (h : OkR t) (hk : t.kind = 1) : lng t = 0 := by
  cases h with
  | @mk k tag key text cl al sl o kids h1 h2 h3 h4 =>
    have e1 : k = 1 := hk
    subst e1
    unfold mayR bareB at h1
    rw [if_pos rfl, Bool.and_eq_true] at h1
    have h1 := h1.1
    simp only [decide_eq_true_eq] at h1
    obtain ⟨_, _, hl, ho⟩ := h1
    subst ho
    have : kids = [] := List.eq_nil_of_length_eq_zero (by omega)
    subst this
    simp only [lng, lngL]
    decide
theorem mrg_lng (l : List Tree) (h : ∀ t ∈ l, OkR t) : lngL (mrg l) = lngL l := by
  have : ∀ r : List Tree, (∀ t ∈ r, OkR t) → lngL (mrg r.reverse) = lngL r.reverse := by
    intro r
    induction r with
    | nil => intro _; rfl
    | cons t r ih =>
      intro hr
      have ih := ih fun t ht => hr t (by simp [ht])
      rw [List.reverse_cons, mrg_snoc, lngL_snoc]
      unfold mrgS
      split
      · rename_i u hu
        have e := congrArg lngL (last_split hu)
        rw [lngL_snoc] at e
        split
        · rename_i hc
          rw [lngL_snoc, lng_plus, lng_one (hr t (by simp)) hc.1]
          have := lngL_nonneg r.reverse
          omega
        · rw [lngL_snoc]; omega
      · rw [lngL_snoc]; omega
  have := this l.reverse (fun t ht => h t (by simpa using ht))
  rwa [List.reverse_reverse] at this
theorem nrm_lng {t : Tree} (h : OkR t) : lng (nrm t) = lng t := by
  induction t using Tree.ind with
  | h k tag key text cl al sl o kids ih =>
    cases h with
    | mk h1 h2 h3 h4 =>
      obtain ⟨e, lv, m, d, p, q⟩ := o
      rw [Proofs.Ytkcjkbnbblpomaa.nrm]
      simp only [lng]
      rw [mrg_lng _ fun u hu => by obtain ⟨t, ht, rfl⟩ := nrmL_mem hu; exact (h4 t ht).nrm]
      have : ∀ ts : List Tree, (∀ t ∈ ts, t ∈ kids) → lngL (nrmL ts) = lngL ts := by
        intro ts
        induction ts with
        | nil => intro _; simp [nrmL]
        | cons u us ihs =>
          intro hm
          have hu := hm u (by simp)
          have ihs := ihs fun t ht => hm t (by simp [ht])
          rw [nrmL]
          split
          · rename_i hv
            rw [ihs]
            simp only [lngL]
            rw [lng_one (h4 u hu) hv.1]
            have := lngL_nonneg us
            omega
          · simp only [lngL]
            rw [ihs, ih u hu (h4 u hu)]
      rw [this kids fun _ h => h]
theorem nrm_stays {t : Tree} {deep depth left : Int} (h : (chkT t deep depth left).1 = 0) :
    cnt (nrm t) ≤ cnt t ∧ dep (nrm t) ≤ dep t ∧ lng (nrm t) = lng t ∧ ((chkT (nrm t) deep depth left).1 = 0 ∨ ((chkT (nrm t) deep depth left).1 = 4 ∧ shortT (nrm t) = false)) := by
  obtain ⟨h1, h2, h3, _⟩ := chk_okR t deep depth left h
  obtain ⟨c1, c2⟩ := nrm_cnt t
  refine ⟨c1, c2, nrm_lng h1, ?_⟩
  rcases okR_chk (nrm t) h1.nrm deep depth left (by omega) (by omega) with h | h
  · exact .inl h.1
  · exact .inr h
theorem Siz.mono {X Y : Nat} {t : Tree} (h : Siz X t) (hXY : X ≤ Y) : Siz Y t := by
  induction h with
  | mk h1 h2 h3 h4 h5 h6 _ ih => exact .mk (by omega) (by omega) (by omega) (fun c hc => by have := h4 c hc; omega) (fun x hx => by have := h5 x hx; omega) (fun x hx => by have := h6 x hx; omega) ih
theorem Siz.plus {X : Nat} {t : Tree} {x : ByteArray} (h : Siz X t) (hx : (t.plus x).text.size ≤ X) : Siz X (t.plus x) := by
  cases h with
  | mk h1 h2 h3 h4 h5 h6 h7 => exact .mk h1 h2 hx h4 h5 h6 h7
theorem mrg_siz {X : Nat} (l : List Tree) (hl : ∀ t ∈ l, Siz X t) (hx : txtL l ≤ X) : ∀ u ∈ mrg l, Siz X u := by
  have : ∀ r : List Tree, (∀ t ∈ r, Siz X t) → txtL r.reverse ≤ X → ∀ u ∈ mrg r.reverse, Siz X u := by
    intro r
    induction r with
    | nil => intro _ _ u hu; simp [mrg] at hu
    | cons t r ih =>
      intro hr hx u hu
      have hs := mrgS_txt (mrg r.reverse) t
      have hT := mrg_txt r.reverse
      rw [List.reverse_cons, txtL_snoc] at hx
      have ih := ih (fun t ht => hr t (by simp [ht])) (by omega)
      have ht := hr t (by simp)
      rw [List.reverse_cons, mrg_snoc] at hu
      have hm := txtL_mem hu
      unfold mrgS at hu hs hm
      split at hu
      · rename_i u0 hu0
        have hu1 : u0 ∈ mrg r.reverse := by rw [last_split hu0]; simp
        split at hu
        · rename_i hc
          rcases List.mem_append.1 hu with h | h
          · exact ih u (by rw [last_split hu0]; simp [h])
          · rw [List.mem_singleton] at h
            subst h
            simp only [hu0, if_pos hc] at hm hs
            exact (ih u0 hu1).plus (by omega)
        · rcases List.mem_append.1 hu with h | h
          · exact ih u h
          · rw [List.mem_singleton] at h; subst h; exact ht
      · rcases List.mem_append.1 hu with h | h
        · exact ih u h
        · rw [List.mem_singleton] at h; subst h; exact ht
  have h := this l.reverse (by simpa using hl) (by simpa using hx)
  simpa using h
theorem Siz.nrm {X Y : Nat} {t : Tree} (h : Siz X t) (hf : Fit X t) (hY : 1001 * X ≤ Y) : Siz Y (nrm t) := by
  induction h with
  | @mk k tag key text cl al sl o kids h1 h2 h3 h4 h5 h6 h7 ih =>
    obtain ⟨-, -, -, g4, g5, g6⟩ := hf
    rw [Proofs.Ytkcjkbnbblpomaa.nrm]
    have ht := nrmL_txt kids g6
    have hm : X * kids.length ≤ X * 1000 := Nat.mul_le_mul_left X g4
    refine .mk (by omega) (by omega) (by omega) (fun c hc => ?_) (fun x hx => ?_) (fun x hx => ?_) (mrg_siz _ (fun u hu => ?_) (by omega))
    · have := h4 c (cln_sub _ c hc); omega
    · have := h5 x (snap_sub nmS _ x hx); omega
    · have := h6 x (snap_sub nmI _ x hx); omega
    · obtain ⟨t, ht, rfl⟩ := nrmL_mem hu
      exact ih t ht (g6 t ht)
end Go.Proofs.Ytkcjkbnbblpomaa
