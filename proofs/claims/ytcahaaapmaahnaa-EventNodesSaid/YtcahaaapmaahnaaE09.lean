/- Layer 33: lists searched and copied; who is deaf; who fits a part. slices.Insert of one entry into a snap. Layer 1, and its reference: numbers that stay within their ends. Layer 13: rectangles. -/
import Derived.Test.YtcahaaapmaahnaaE07
import Derived.Test.YtcahaaapmaahnaaE08
import Derived.Test.YtcahaaapmaahnaaE06
import Derived.Test.YtcahaaapmaahnaaE05
set_option linter.all false
namespace Go.Proofs.Ytcahaaapmaahnaa
open Go.RowKit
set_option maxRecDepth 100000
attribute [local irreducible] Go.Code.wpIn Go.wpListIn Go.Calls Gives Go.Exit.then Go.Exit.inBlock Done ObxE

theorem index_any (l : List Int) (x : Int) (v : Value) (w0 : World) (hv : SlT l v w0) (hl : l.length ≤ 1000) : Calls Try.prog 20 #[v, .int .i64 x] w0
    (Ret fun v w => ∃ r : Int, v = .int .i64 r ∧ (r = -1 ∧ x ∉ l ∨ ∃ j : Nat, r = j ∧ l[j]? = some x ∧ ∀ k, k < j → l[k]? ≠ some x) ∧ St w0 [] w) := by
  refine enter Try.func20 rfl Try.ntmps20 rfl (fun a hk => ?_); have hS := St.refl w0
  (repeat' (first | (show wpListIn _ _ _ _ _ (_ :: _) _ _; first | (refine wx1 ?_; clear hk a; intro a hk) | (refine wx2 ?_ ?_ <;> (intro hp; clear hk a; intro a hk)) | (refine wx3 ?_; clear hk hS a; intro w b hS a hk) | (refine wx4 ?_; clear hk hS a; intro w hS a hk) | (refine wx5 ?_; clear hk hS a; intro w v hS a hk) | fail) | refine wx0 ?_ | (refine s_end hk ?_; clear hk a; intro a hk) | fail))
  replace hk := Kn.kp [0, 1, 7, 8] hk
  refine wp_for l.length (fun i _ => [(8, .int .i64 (i : Int))]) (fun _ _ => []) (fun i _ => ∀ j, j < i → l[j]? ≠ some x) () hk (by repeat (first | exact trivial | refine ⟨rfl, ?_⟩)) hS (fun j hj => by omega) ?_
  clear hk hS a
  rintro i _ a w hi hk hS hF
  (repeat' (first | (show wpListIn _ _ _ _ _ (_ :: _) _ _; first | (refine wx1 ?_; clear hk a; intro a hk) | (refine wx2 ?_ ?_ <;> (intro hp; clear hk a; intro a hk)) | (refine wx3 ?_; clear hk hS a; intro w b hS a hk) | (refine wx4 ?_; clear hk hS a; intro w hS a hk) | (refine wx5 ?_; clear hk hS a; intro w v hS a hk) | fail) | refine wx0 ?_ | (refine s_end hk ?_; clear hk a; intro a hk) | fail))
  · have e : x = l[i]'(by omega) := by assumption
    exact done1 hk (h := ⟨_, rfl, .inr ⟨i, rfl, by rw [e]; exact List.getElem?_eq_getElem _, hF⟩, hS.nil⟩)
  · have e : ¬ x = l[i]'(by omega) := by assumption
    refine ⟨by omega, (), hk.sd, hS, fun j hj => ?_⟩
    by_cases e2 : j = i
    · subst e2; rw [List.getElem?_eq_getElem (by omega)]; exact fun h => e (by injection h with h; exact h.symm)
    · exact hF j (by omega)
  · refine done1 hk (h := ⟨_, rfl, .inl ⟨rfl, fun hx => ?_⟩, hS.nil⟩)
    obtain ⟨j, hj⟩ := List.getElem?_of_mem hx
    exact hF j (by have := lt_of_get hj; omega) hj
theorem contains_any (l : List Int) (x : Int) (v : Value) (w0 : World) (hv : SlT l v w0) (hl : l.length ≤ 1000) : Calls Try.prog 10 #[v, .int .i64 x] w0 (Ret fun v w => v = .bool (decide (x ∈ l)) ∧ St w0 [] w) := by
  refine enter Try.func10 rfl Try.ntmps10 rfl (fun a hk => ?_); have hS := St.refl w0
  (repeat' (first | (show wpListIn _ _ _ _ _ (_ :: _) _ _; first | (refine wx1 ?_; clear hk a; intro a hk) | (refine wx2 ?_ ?_ <;> (intro hp; clear hk a; intro a hk)) | (refine wx3 ?_; clear hk hS a; intro w b hS a hk) | (refine wx4 ?_; clear hk hS a; intro w hS a hk) | (refine wx5 ?_; clear hk hS a; intro w v hS a hk) | fail) | refine wx0 ?_ | (refine s_end hk ?_; clear hk a; intro a hk) | fail))
  refine sg hk (g_callO hk (hf := by kernel_rfl) (hc := index_any l x v _ (hS.rdT hv) hl) (h := ?_)); clear hk a; rintro vr w ⟨r, rfl, hr, hS1⟩ a hk; replace hS := hS.call hS1; clear hS1
  rcases hr with ⟨h1, h2⟩ | ⟨j, h1, h2, _⟩
  · (repeat' (first | (show wpListIn _ _ _ _ _ (_ :: _) _ _; first | (refine wx1 ?_; clear hk a; intro a hk) | (refine wx2 ?_ ?_ <;> (intro hp; clear hk a; intro a hk)) | (refine wx3 ?_; clear hk hS a; intro w b hS a hk) | (refine wx4 ?_; clear hk hS a; intro w hS a hk) | (refine wx5 ?_; clear hk hS a; intro w v hS a hk) | fail) | refine wx0 ?_ | (refine s_end hk ?_; clear hk a; intro a hk) | fail))
    exact done1 hk (h := ⟨by rw [decide_eq_false h2], hS.nil⟩)
  · (repeat' (first | (show wpListIn _ _ _ _ _ (_ :: _) _ _; first | (refine wx1 ?_; clear hk a; intro a hk) | (refine wx2 ?_ ?_ <;> (intro hp; clear hk a; intro a hk)) | (refine wx3 ?_; clear hk hS a; intro w b hS a hk) | (refine wx4 ?_; clear hk hS a; intro w hS a hk) | (refine wx5 ?_; clear hk hS a; intro w v hS a hk) | fail) | refine wx0 ?_ | (refine s_end hk ?_; clear hk a; intro a hk) | fail))
    exact done1 hk (h := ⟨by rw [decide_eq_true (List.mem_of_getElem? h2)], hS.nil⟩)

def getS (l : List PrS) (k : ByteArray) : ByteArray := ((lastF nmS l k).getD (k, (⟨#[]⟩ : ByteArray))).2
theorem getS_any (l : List PrS) (k : ByteArray) (v : Value) (w0 : World) (hv : SlT l v w0) (hl : l.length ≤ 1000) :
    Calls Try.prog 31 #[v, .string k] w0 (Ret fun v w => v = .tuple #[.string (getS l k), .bool (lastF nmS l k).isSome] ∧ St w0 [] w) := by
  have hsl := snap_len nmS l
  have hsr := snap_rises nmS l
  unfold getS
  rw [← snap_last_eq nmS l k]
  refine enter Try.func31 rfl Try.ntmps31 rfl (fun a hk => ?_); have hS := St.refl w0
  (repeat' (first | (show wpListIn _ _ _ _ _ (_ :: _) _ _; first | (refine wx1 ?_; clear hk a; intro a hk) | (refine wx2 ?_ ?_ <;> (intro hp; clear hk a; intro a hk)) | (refine wx3 ?_; clear hk hS a; intro w b hS a hk) | (refine wx4 ?_; clear hk hS a; intro w hS a hk) | (refine wx5 ?_; clear hk hS a; intro w v hS a hk) | fail) | refine wx0 ?_ | (refine s_end hk ?_; clear hk a; intro a hk) | fail))
  refine sg hk (g_callO hk (hf := by kernel_rfl) (hc := ofS_any l v _ (hS.rdT hv) hl) (h := ?_)); clear hk a; rintro vs w hS1 a hk; replace hS := hS.call hS1; clear hS1
  generalize snapF nmS l = S at *
  (repeat' (first | (show wpListIn _ _ _ _ _ (_ :: _) _ _; first | (refine wx1 ?_; clear hk a; intro a hk) | (refine wx2 ?_ ?_ <;> (intro hp; clear hk a; intro a hk)) | (refine wx3 ?_; clear hk hS a; intro w b hS a hk) | (refine wx4 ?_; clear hk hS a; intro w hS a hk) | (refine wx5 ?_; clear hk hS a; intro w v hS a hk) | fail) | refine wx0 ?_ | (refine s_end hk ?_; clear hk a; intro a hk) | fail))
  refine sg hk (g_callO hk (hf := by kernel_rfl) (hc := whereS_any S k vs _ (by first | exact St.rdT hS (by assumption) | exact OwT.rd (hS.rd (A := OwT _ _ _) (by (repeat (first | exact At.here | apply At.there)))) | assumption) (by omega) hsr) (h := ?_)); clear hk a; rintro vr w ⟨n, f, rfl, hF, hS1⟩ a hk; replace hS := hS.call hS1; clear hS1
  have hlast := found_last nmS hsr hF
  cases f with
  | true =>
    obtain ⟨hn, _⟩ := hF.2.2.2.1 rfl
    rw [if_pos rfl, List.getElem?_eq_getElem hn] at hlast
    rw [hlast]
    (repeat' (first | (show wpListIn _ _ _ _ _ (_ :: _) _ _; first | (refine wx1 ?_; clear hk a; intro a hk) | (refine wx2 ?_ ?_ <;> (intro hp; clear hk a; intro a hk)) | (refine wx3 ?_; clear hk hS a; intro w b hS a hk) | (refine wx4 ?_; clear hk hS a; intro w hS a hk) | (refine wx5 ?_; clear hk hS a; intro w v hS a hk) | fail) | refine wx0 ?_ | (refine s_end hk ?_; clear hk a; intro a hk) | fail))
    exact done2 hk (h := ⟨rfl, hS.nil⟩)
  | false =>
    rw [if_neg (by decide)] at hlast
    rw [hlast]
    (repeat' (first | (show wpListIn _ _ _ _ _ (_ :: _) _ _; first | (refine wx1 ?_; clear hk a; intro a hk) | (refine wx2 ?_ ?_ <;> (intro hp; clear hk a; intro a hk)) | (refine wx3 ?_; clear hk hS a; intro w b hS a hk) | (refine wx4 ?_; clear hk hS a; intro w hS a hk) | (refine wx5 ?_; clear hk hS a; intro w v hS a hk) | fail) | refine wx0 ?_ | (refine s_end hk ?_; clear hk a; intro a hk) | fail))
    exact done2 hk (h := ⟨rfl, hS.nil⟩)

theorem cloneI33 (l : List Int) (v : Value) (w0 : World) (hv : SlT l v w0) (hl : l.length ≤ 900) : Calls Try.prog 24 #[v] w0 (Ret fun v w => St w0 [OwT 3 l v] w) := by
  obtain ⟨ao, c, rfl, hao, _⟩ := hv.shape
  refine enter Try.func24 rfl Try.ntmps24 rfl (fun a hk => ?_); have hS := St.refl w0
  (repeat' (first | (show wpListIn _ _ _ _ _ (_ :: _) _ _; first | (refine wx1 ?_; clear hk a; intro a hk) | (refine wx2 ?_ ?_ <;> (intro hp; clear hk a; intro a hk)) | (refine wx3 ?_; clear hk hS a; intro w b hS a hk) | (refine wx4 ?_; clear hk hS a; intro w hS a hk) | (refine wx5 ?_; clear hk hS a; intro w v hS a hk) | fail) | refine wx0 ?_ | (refine s_end hk ?_; clear hk a; intro a hk) | fail))
  refine sg hk (g_eqN hk ?_ (hT := eT rfl)); clear hk a; intro a hk
  cases ao with
  | none =>
    obtain ⟨h1, _⟩ := hao rfl
    subst h1
    (repeat' (first | (show wpListIn _ _ _ _ _ (_ :: _) _ _; first | (refine wx1 ?_; clear hk a; intro a hk) | (refine wx2 ?_ ?_ <;> (intro hp; clear hk a; intro a hk)) | (refine wx3 ?_; clear hk hS a; intro w b hS a hk) | (refine wx4 ?_; clear hk hS a; intro w hS a hk) | (refine wx5 ?_; clear hk hS a; intro w v hS a hk) | fail) | refine wx0 ?_ | (refine s_end hk ?_; clear hk a; intro a hk) | fail))
    exact done1 hk (h := hS.nilT 3 Int)
  | some ad =>
    (repeat' (first | (show wpListIn _ _ _ _ _ (_ :: _) _ _; first | (refine wx1 ?_; clear hk a; intro a hk) | (refine wx2 ?_ ?_ <;> (intro hp; clear hk a; intro a hk)) | (refine wx3 ?_; clear hk hS a; intro w b hS a hk) | (refine wx4 ?_; clear hk hS a; intro w hS a hk) | (refine wx5 ?_; clear hk hS a; intro w v hS a hk) | fail) | refine wx0 ?_ | (refine s_end hk ?_; clear hk a; intro a hk) | fail))
    refine sg hk (g_bs0 Int hS ?_ (hT := eT rfl) (hE := zT rfl)); clear hk hS a; intro w v0 hS a hk
    refine sg hk (g_move hk ?_); clear hk a; intro a hk
    refine sg hk (g_appT (xs := ([] : List Int)) (ys := l) hk hS ?_ (hT := eT rfl) (hTx := eT rfl) (hE := zT rfl) (hz := oT rfl) (hzs := rfl) (hs := hS.rdT hv) (hby := bT rfl) (hbytes := by simp only [List.length_nil]; omega) (h63 := by simp only [maxLen, List.length_nil]; omega)); clear hk hS a; intro w v1 hS a hk
    rw [List.nil_append] at hS
    (repeat' (first | (show wpListIn _ _ _ _ _ (_ :: _) _ _; first | (refine wx1 ?_; clear hk a; intro a hk) | (refine wx2 ?_ ?_ <;> (intro hp; clear hk a; intro a hk)) | (refine wx3 ?_; clear hk hS a; intro w b hS a hk) | (refine wx4 ?_; clear hk hS a; intro w hS a hk) | (refine wx5 ?_; clear hk hS a; intro w v hS a hk) | fail) | refine wx0 ?_ | (refine s_end hk ?_; clear hk a; intro a hk) | fail))
    exact done1 hk (h := hS)
theorem cloneB33 (l : List Bool) (v : Value) (w0 : World) (hv : SlT l v w0) (hl : l.length ≤ 900) : Calls Try.prog 30 #[v] w0 (Ret fun v w => St w0 [OwT 4 l v] w) := by
  obtain ⟨ao, c, rfl, hao, _⟩ := hv.shape
  refine enter Try.func30 rfl Try.ntmps30 rfl (fun a hk => ?_); have hS := St.refl w0
  (repeat' (first | (show wpListIn _ _ _ _ _ (_ :: _) _ _; first | (refine wx1 ?_; clear hk a; intro a hk) | (refine wx2 ?_ ?_ <;> (intro hp; clear hk a; intro a hk)) | (refine wx3 ?_; clear hk hS a; intro w b hS a hk) | (refine wx4 ?_; clear hk hS a; intro w hS a hk) | (refine wx5 ?_; clear hk hS a; intro w v hS a hk) | fail) | refine wx0 ?_ | (refine s_end hk ?_; clear hk a; intro a hk) | fail))
  refine sg hk (g_eqN hk ?_ (hT := eT rfl)); clear hk a; intro a hk
  cases ao with
  | none =>
    obtain ⟨h1, _⟩ := hao rfl
    subst h1
    (repeat' (first | (show wpListIn _ _ _ _ _ (_ :: _) _ _; first | (refine wx1 ?_; clear hk a; intro a hk) | (refine wx2 ?_ ?_ <;> (intro hp; clear hk a; intro a hk)) | (refine wx3 ?_; clear hk hS a; intro w b hS a hk) | (refine wx4 ?_; clear hk hS a; intro w hS a hk) | (refine wx5 ?_; clear hk hS a; intro w v hS a hk) | fail) | refine wx0 ?_ | (refine s_end hk ?_; clear hk a; intro a hk) | fail))
    exact done1 hk (h := hS.nilT 4 Bool)
  | some ad =>
    (repeat' (first | (show wpListIn _ _ _ _ _ (_ :: _) _ _; first | (refine wx1 ?_; clear hk a; intro a hk) | (refine wx2 ?_ ?_ <;> (intro hp; clear hk a; intro a hk)) | (refine wx3 ?_; clear hk hS a; intro w b hS a hk) | (refine wx4 ?_; clear hk hS a; intro w hS a hk) | (refine wx5 ?_; clear hk hS a; intro w v hS a hk) | fail) | refine wx0 ?_ | (refine s_end hk ?_; clear hk a; intro a hk) | fail))
    refine sg hk (g_bs0 Bool hS ?_ (hT := eT rfl) (hE := zT rfl)); clear hk hS a; intro w v0 hS a hk
    refine sg hk (g_move hk ?_); clear hk a; intro a hk
    refine sg hk (g_appT (xs := ([] : List Bool)) (ys := l) hk hS ?_ (hT := eT rfl) (hTx := eT rfl) (hE := zT rfl) (hz := oT rfl) (hzs := rfl) (hs := hS.rdT hv) (hby := bT rfl) (hbytes := by simp only [List.length_nil]; omega) (h63 := by simp only [maxLen, List.length_nil]; omega)); clear hk hS a; intro w v1 hS a hk
    rw [List.nil_append] at hS
    (repeat' (first | (show wpListIn _ _ _ _ _ (_ :: _) _ _; first | (refine wx1 ?_; clear hk a; intro a hk) | (refine wx2 ?_ ?_ <;> (intro hp; clear hk a; intro a hk)) | (refine wx3 ?_; clear hk hS a; intro w b hS a hk) | (refine wx4 ?_; clear hk hS a; intro w hS a hk) | (refine wx5 ?_; clear hk hS a; intro w v hS a hk) | fail) | refine wx0 ?_ | (refine s_end hk ?_; clear hk a; intro a hk) | fail))
    exact done1 hk (h := hS)
theorem deaf33 (t : STree) (h : SnH) (w0 : World) (hp : PlT t) (hr : SrR w0 t h) : Calls Try.prog 23 #[snV h] w0 (Ret fun v w => v = .bool false ∧ St w0 [] w) := by
  obtain ⟨id, k, tag, text, cl, al, sl, kids, a1, m1, a2, m2, a3, m3, a4, m4, H, rfl, rfl, c1, c2, c3, c4, hF⟩ := hr.split
  cases hp
  have hg := fun w0 h1 => getS_any ([] : List PrS) ⟨#[116, 45, 103, 104, 111, 115, 116]⟩ (.slice a2 0 m2) w0 h1 (by simp)
  have hc := fun w0 h1 => hasC_any ([] : List ByteArray) ⟨#[116, 45, 119, 97, 105, 116]⟩ (.slice a1 0 m1) w0 h1 (by simp)
  rw [show lastF nmS ([] : List PrS) ⟨#[116, 45, 103, 104, 111, 115, 116]⟩ = none from rfl] at hg
  simp only [List.not_mem_nil, decide_false] at hc
  simp only [Option.isSome_none] at hg
  show Calls Try.prog 23 #[.agg #[.int .i64 id, .int .i64 k, .string tag, .string text, .slice a1 0 m1, .slice a2 0 m2, .slice a3 sl.length m3, .slice a4 H.length m4]] w0 _
  by_cases hk1 : k = 1
  · refine enter Try.func23 rfl Try.ntmps23 rfl (fun a hk => ?_); have hS := St.refl w0
    (repeat' (first | (show wpListIn _ _ _ _ _ (_ :: _) _ _; first | (refine wx1 ?_; clear hk a; intro a hk) | (refine wx2 ?_ ?_ <;> (intro hp; clear hk a; intro a hk)) | (refine wx3 ?_; clear hk hS a; intro w b hS a hk) | (refine wx4 ?_; clear hk hS a; intro w hS a hk) | (refine wx5 ?_; clear hk hS a; intro w v hS a hk) | fail) | refine wx0 ?_ | (refine s_end hk ?_; clear hk a; intro a hk) | fail))
    refine sg hk (g_callO hk (hf := by kernel_rfl) (hc := hg _ (hS.rdT c2)) (h := ?_)); clear hk a; rintro _ w ⟨rfl, hS1⟩ a hk; replace hS := hS.call0 hS1; clear hS1
    (repeat' (first | (show wpListIn _ _ _ _ _ (_ :: _) _ _; first | (refine wx1 ?_; clear hk a; intro a hk) | (refine wx2 ?_ ?_ <;> (intro hp; clear hk a; intro a hk)) | (refine wx3 ?_; clear hk hS a; intro w b hS a hk) | (refine wx4 ?_; clear hk hS a; intro w hS a hk) | (refine wx5 ?_; clear hk hS a; intro w v hS a hk) | fail) | refine wx0 ?_ | (refine s_end hk ?_; clear hk a; intro a hk) | fail))
    exact done1 hk (h := ⟨rfl, hS.nil⟩)
  · refine enter Try.func23 rfl Try.ntmps23 rfl (fun a hk => ?_); have hS := St.refl w0
    (repeat' (first | (show wpListIn _ _ _ _ _ (_ :: _) _ _; first | (refine wx1 ?_; clear hk a; intro a hk) | (refine wx2 ?_ ?_ <;> (intro hp; clear hk a; intro a hk)) | (refine wx3 ?_; clear hk hS a; intro w b hS a hk) | (refine wx4 ?_; clear hk hS a; intro w hS a hk) | (refine wx5 ?_; clear hk hS a; intro w v hS a hk) | fail) | refine wx0 ?_ | (refine s_end hk ?_; clear hk a; intro a hk) | fail))
    refine sg hk (g_callO hk (hf := by kernel_rfl) (hc := hg _ (hS.rdT c2)) (h := ?_)); clear hk a; rintro _ w ⟨rfl, hS1⟩ a hk; replace hS := hS.call0 hS1; clear hS1
    (repeat' (first | (show wpListIn _ _ _ _ _ (_ :: _) _ _; first | (refine wx1 ?_; clear hk a; intro a hk) | (refine wx2 ?_ ?_ <;> (intro hp; clear hk a; intro a hk)) | (refine wx3 ?_; clear hk hS a; intro w b hS a hk) | (refine wx4 ?_; clear hk hS a; intro w hS a hk) | (refine wx5 ?_; clear hk hS a; intro w v hS a hk) | fail) | refine wx0 ?_ | (refine s_end hk ?_; clear hk a; intro a hk) | fail))
    refine sg hk (g_callO hk (hf := by kernel_rfl) (hc := hc _ (hS.rdT c1)) (h := ?_)); clear hk a; rintro _ w ⟨rfl, hS1⟩ a hk; replace hS := hS.call0 hS1; clear hS1
    (repeat' (first | (show wpListIn _ _ _ _ _ (_ :: _) _ _; first | (refine wx1 ?_; clear hk a; intro a hk) | (refine wx2 ?_ ?_ <;> (intro hp; clear hk a; intro a hk)) | (refine wx3 ?_; clear hk hS a; intro w b hS a hk) | (refine wx4 ?_; clear hk hS a; intro w hS a hk) | (refine wx5 ?_; clear hk hS a; intro w v hS a hk) | fail) | refine wx0 ?_ | (refine s_end hk ?_; clear hk a; intro a hk) | fail))
    exact done1 hk (h := ⟨rfl, hS.nil⟩)
theorem idxN33 (u : Value) (w0 : World) : Calls Try.prog 48 #[.slice none 0 0, u] w0 (Ret fun v w => v = .int .i64 (-1) ∧ St w0 [] w) := by
  have hn : SlT ([] : List Int) (.slice none 0 0) w0 := SlT.nil w0
  refine enter Try.func48 rfl Try.ntmps48 rfl (fun a hk => ?_); have hS := St.refl w0
  (repeat' (first | (show wpListIn _ _ _ _ _ (_ :: _) _ _; first | (refine wx1 ?_; clear hk a; intro a hk) | (refine wx2 ?_ ?_ <;> (intro hp; clear hk a; intro a hk)) | (refine wx3 ?_; clear hk hS a; intro w b hS a hk) | (refine wx4 ?_; clear hk hS a; intro w hS a hk) | (refine wx5 ?_; clear hk hS a; intro w v hS a hk) | fail) | refine wx0 ?_ | (refine s_end hk ?_; clear hk a; intro a hk) | fail))
  replace hk := Kn.kp [0, 1, 7, 8] hk
  rw [show ((([] : List Int).length : Nat) : Int) = 0 from rfl] at hk
  refine wp_for 0 (fun i _ => [(8, .int .i64 (i : Int))]) (fun _ _ => []) (fun _ _ => True) () hk (by repeat (first | exact trivial | refine ⟨rfl, ?_⟩)) hS.sb trivial ?_
  clear hk hS a
  rintro i - a w hi hk hS -
  have : i = 0 := by omega
  subst this
  (repeat' (first | (show wpListIn _ _ _ _ _ (_ :: _) _ _; first | (refine wx1 ?_; clear hk a; intro a hk) | (refine wx2 ?_ ?_ <;> (intro hp; clear hk a; intro a hk)) | (refine wx3 ?_; clear hk hS a; intro w b hS a hk) | (refine wx4 ?_; clear hk hS a; intro w hS a hk) | (refine wx5 ?_; clear hk hS a; intro w v hS a hk) | fail) | refine wx0 ?_ | (refine s_end hk ?_; clear hk a; intro a hk) | fail))
  exact done1 hk (h := ⟨rfl, hS.nil⟩)
theorem conN33 (u : Value) (w0 : World) : Calls Try.prog 39 #[.slice none 0 0, u] w0 (Ret fun v w => v = .bool false ∧ St w0 [] w) := by
  refine enter Try.func39 rfl Try.ntmps39 rfl (fun a hk => ?_); have hS := St.refl w0
  (repeat' (first | (show wpListIn _ _ _ _ _ (_ :: _) _ _; first | (refine wx1 ?_; clear hk a; intro a hk) | (refine wx2 ?_ ?_ <;> (intro hp; clear hk a; intro a hk)) | (refine wx3 ?_; clear hk hS a; intro w b hS a hk) | (refine wx4 ?_; clear hk hS a; intro w hS a hk) | (refine wx5 ?_; clear hk hS a; intro w v hS a hk) | fail) | refine wx0 ?_ | (refine s_end hk ?_; clear hk a; intro a hk) | fail))
  refine sg hk (g_callO hk (hf := by kernel_rfl) (hc := idxN33 u _) (h := ?_)); clear hk a; rintro _ w ⟨rfl, hS1⟩ a hk; replace hS := hS.call0 hS1; clear hS1
  (repeat' (first | (show wpListIn _ _ _ _ _ (_ :: _) _ _; first | (refine wx1 ?_; clear hk a; intro a hk) | (refine wx2 ?_ ?_ <;> (intro hp; clear hk a; intro a hk)) | (refine wx3 ?_; clear hk hS a; intro w b hS a hk) | (refine wx4 ?_; clear hk hS a; intro w hS a hk) | (refine wx5 ?_; clear hk hS a; intro w v hS a hk) | fail) | refine wx0 ?_ | (refine s_end hk ?_; clear hk a; intro a hk) | fail))
  exact done1 hk (h := ⟨rfl, hS.nil⟩)
def fitB (pt : ByteArray) (k : Int) (tag : ByteArray) : Prop := k = 2 ∧ (pt = ⟨#[]⟩ ∨ pt = ⟨#[42]⟩ ∨ pt = tag)
instance (pt : ByteArray) (k : Int) (tag : ByteArray) : Decidable (fitB pt k tag) := by unfold fitB; exact inferInstance
set_option maxHeartbeats 4000000 in
theorem fits33 (pt : ByteArray) (id k : Int) (tag text : ByteArray) (a1 a2 a3 a4 : Option Addr) (n1 n2 n3 n4 m1 m2 m3 m4 : Nat) (w0 : World) :
    Calls Try.prog 29 #[.agg #[.string pt, .slice none 0 0, .slice none 0 0, .bool false], .agg #[.int .i64 id, .int .i64 k, .string tag, .string text, .slice a1 n1 m1, .slice a2 n2 m2, .slice a3 n3 m3, .slice a4 n4 m4]] w0 (Ret fun v w => v = .bool (decide (fitB pt k tag)) ∧ St w0 [] w) := by
  have hn : SlT ([] : List ByteArray) (.slice none 0 0) w0 := SlT.nil w0
  by_cases hf : fitB pt k tag
  · rw [decide_eq_true hf]
    obtain ⟨h1, h2⟩ := hf
    by_cases hp1 : pt = ⟨#[]⟩
    · refine enter Try.func29 rfl Try.ntmps29 rfl (fun a hk => ?_); have hS := St.refl w0
      (repeat' (first | (show wpListIn _ _ _ _ _ (_ :: _) _ _; first | (refine wx1 ?_; clear hk a; intro a hk) | (refine wx2 ?_ ?_ <;> (intro hp; clear hk a; intro a hk)) | (refine wx3 ?_; clear hk hS a; intro w b hS a hk) | (refine wx4 ?_; clear hk hS a; intro w hS a hk) | (refine wx5 ?_; clear hk hS a; intro w v hS a hk) | fail) | refine wx0 ?_ | (refine s_end hk ?_; clear hk a; intro a hk) | fail))
      have hn1 := hS.rdT hn
      (repeat' (first | (show wpListIn _ _ _ _ _ (_ :: _) _ _; first | (refine wx1 ?_; clear hk a; intro a hk) | (refine wx2 ?_ ?_ <;> (intro hp; clear hk a; intro a hk)) | (refine wx3 ?_; clear hk hS a; intro w b hS a hk) | (refine wx4 ?_; clear hk hS a; intro w hS a hk) | (refine wx5 ?_; clear hk hS a; intro w v hS a hk) | fail) | refine wx0 ?_ | (refine s_end hk ?_; clear hk a; intro a hk) | fail))
      have hl := hS
      replace hk := Kn.kp [2, 3, 28, 29, 30] hk
      rw [show ((([] : List ByteArray).length : Nat) : Int) = 0 from rfl] at hk
      refine wp_for 0 (fun i _ => [(30, .int .i64 (i : Int))]) (fun _ _ => _) (fun _ _ => True) () hk (by repeat (first | exact trivial | refine ⟨rfl, ?_⟩)) hS trivial ?_
      clear hk hS a hn1 hl
      rintro i - a w hi hk hS -
      have : i = 0 := by omega
      subst this
      (repeat' (first | (show wpListIn _ _ _ _ _ (_ :: _) _ _; first | (refine wx1 ?_; clear hk a; intro a hk) | (refine wx2 ?_ ?_ <;> (intro hp; clear hk a; intro a hk)) | (refine wx3 ?_; clear hk hS a; intro w b hS a hk) | (refine wx4 ?_; clear hk hS a; intro w hS a hk) | (refine wx5 ?_; clear hk hS a; intro w v hS a hk) | fail) | refine wx0 ?_ | (refine s_end hk ?_; clear hk a; intro a hk) | fail))
      refine sg hk (g_callO hk (hf := by kernel_rfl) (hc := conN33 _ _) (h := ?_)); clear hk a; rintro _ w ⟨rfl, hS1⟩ a hk; replace hS := hS.call0 hS1; clear hS1
      (repeat' (first | (show wpListIn _ _ _ _ _ (_ :: _) _ _; first | (refine wx1 ?_; clear hk a; intro a hk) | (refine wx2 ?_ ?_ <;> (intro hp; clear hk a; intro a hk)) | (refine wx3 ?_; clear hk hS a; intro w b hS a hk) | (refine wx4 ?_; clear hk hS a; intro w hS a hk) | (refine wx5 ?_; clear hk hS a; intro w v hS a hk) | fail) | refine wx0 ?_ | (refine s_end hk ?_; clear hk a; intro a hk) | fail))
      exact done1 hk (h := ⟨rfl, hS.nil⟩)
    · by_cases hp2 : pt = ⟨#[42]⟩
      · refine enter Try.func29 rfl Try.ntmps29 rfl (fun a hk => ?_); have hS := St.refl w0
        (repeat' (first | (show wpListIn _ _ _ _ _ (_ :: _) _ _; first | (refine wx1 ?_; clear hk a; intro a hk) | (refine wx2 ?_ ?_ <;> (intro hp; clear hk a; intro a hk)) | (refine wx3 ?_; clear hk hS a; intro w b hS a hk) | (refine wx4 ?_; clear hk hS a; intro w hS a hk) | (refine wx5 ?_; clear hk hS a; intro w v hS a hk) | fail) | refine wx0 ?_ | (refine s_end hk ?_; clear hk a; intro a hk) | fail))
        have hn1 := hS.rdT hn
        (repeat' (first | (show wpListIn _ _ _ _ _ (_ :: _) _ _; first | (refine wx1 ?_; clear hk a; intro a hk) | (refine wx2 ?_ ?_ <;> (intro hp; clear hk a; intro a hk)) | (refine wx3 ?_; clear hk hS a; intro w b hS a hk) | (refine wx4 ?_; clear hk hS a; intro w hS a hk) | (refine wx5 ?_; clear hk hS a; intro w v hS a hk) | fail) | refine wx0 ?_ | (refine s_end hk ?_; clear hk a; intro a hk) | fail))
        have hl := hS
        replace hk := Kn.kp [2, 3, 28, 29, 30] hk
        rw [show ((([] : List ByteArray).length : Nat) : Int) = 0 from rfl] at hk
        refine wp_for 0 (fun i _ => [(30, .int .i64 (i : Int))]) (fun _ _ => _) (fun _ _ => True) () hk (by repeat (first | exact trivial | refine ⟨rfl, ?_⟩)) hS trivial ?_
        clear hk hS a hn1 hl
        rintro i - a w hi hk hS -
        have : i = 0 := by omega
        subst this
        (repeat' (first | (show wpListIn _ _ _ _ _ (_ :: _) _ _; first | (refine wx1 ?_; clear hk a; intro a hk) | (refine wx2 ?_ ?_ <;> (intro hp; clear hk a; intro a hk)) | (refine wx3 ?_; clear hk hS a; intro w b hS a hk) | (refine wx4 ?_; clear hk hS a; intro w hS a hk) | (refine wx5 ?_; clear hk hS a; intro w v hS a hk) | fail) | refine wx0 ?_ | (refine s_end hk ?_; clear hk a; intro a hk) | fail))
        refine sg hk (g_callO hk (hf := by kernel_rfl) (hc := conN33 _ _) (h := ?_)); clear hk a; rintro _ w ⟨rfl, hS1⟩ a hk; replace hS := hS.call0 hS1; clear hS1
        (repeat' (first | (show wpListIn _ _ _ _ _ (_ :: _) _ _; first | (refine wx1 ?_; clear hk a; intro a hk) | (refine wx2 ?_ ?_ <;> (intro hp; clear hk a; intro a hk)) | (refine wx3 ?_; clear hk hS a; intro w b hS a hk) | (refine wx4 ?_; clear hk hS a; intro w hS a hk) | (refine wx5 ?_; clear hk hS a; intro w v hS a hk) | fail) | refine wx0 ?_ | (refine s_end hk ?_; clear hk a; intro a hk) | fail))
        exact done1 hk (h := ⟨rfl, hS.nil⟩)
      · have hp3 : pt = tag := by rcases h2 with h | h | h; exact absurd h hp1; exact absurd h hp2; exact h
        refine enter Try.func29 rfl Try.ntmps29 rfl (fun a hk => ?_); have hS := St.refl w0
        (repeat' (first | (show wpListIn _ _ _ _ _ (_ :: _) _ _; first | (refine wx1 ?_; clear hk a; intro a hk) | (refine wx2 ?_ ?_ <;> (intro hp; clear hk a; intro a hk)) | (refine wx3 ?_; clear hk hS a; intro w b hS a hk) | (refine wx4 ?_; clear hk hS a; intro w hS a hk) | (refine wx5 ?_; clear hk hS a; intro w v hS a hk) | fail) | refine wx0 ?_ | (refine s_end hk ?_; clear hk a; intro a hk) | fail))
        have hn1 := hS.rdT hn
        (repeat' (first | (show wpListIn _ _ _ _ _ (_ :: _) _ _; first | (refine wx1 ?_; clear hk a; intro a hk) | (refine wx2 ?_ ?_ <;> (intro hp; clear hk a; intro a hk)) | (refine wx3 ?_; clear hk hS a; intro w b hS a hk) | (refine wx4 ?_; clear hk hS a; intro w hS a hk) | (refine wx5 ?_; clear hk hS a; intro w v hS a hk) | fail) | refine wx0 ?_ | (refine s_end hk ?_; clear hk a; intro a hk) | fail))
        have hl := hS
        replace hk := Kn.kp [2, 3, 28, 29, 30] hk
        rw [show ((([] : List ByteArray).length : Nat) : Int) = 0 from rfl] at hk
        refine wp_for 0 (fun i _ => [(30, .int .i64 (i : Int))]) (fun _ _ => _) (fun _ _ => True) () hk (by repeat (first | exact trivial | refine ⟨rfl, ?_⟩)) hS trivial ?_
        clear hk hS a hn1 hl
        rintro i - a w hi hk hS -
        have : i = 0 := by omega
        subst this
        (repeat' (first | (show wpListIn _ _ _ _ _ (_ :: _) _ _; first | (refine wx1 ?_; clear hk a; intro a hk) | (refine wx2 ?_ ?_ <;> (intro hp; clear hk a; intro a hk)) | (refine wx3 ?_; clear hk hS a; intro w b hS a hk) | (refine wx4 ?_; clear hk hS a; intro w hS a hk) | (refine wx5 ?_; clear hk hS a; intro w v hS a hk) | fail) | refine wx0 ?_ | (refine s_end hk ?_; clear hk a; intro a hk) | fail))
        refine sg hk (g_callO hk (hf := by kernel_rfl) (hc := conN33 _ _) (h := ?_)); clear hk a; rintro _ w ⟨rfl, hS1⟩ a hk; replace hS := hS.call0 hS1; clear hS1
        (repeat' (first | (show wpListIn _ _ _ _ _ (_ :: _) _ _; first | (refine wx1 ?_; clear hk a; intro a hk) | (refine wx2 ?_ ?_ <;> (intro hp; clear hk a; intro a hk)) | (refine wx3 ?_; clear hk hS a; intro w b hS a hk) | (refine wx4 ?_; clear hk hS a; intro w hS a hk) | (refine wx5 ?_; clear hk hS a; intro w v hS a hk) | fail) | refine wx0 ?_ | (refine s_end hk ?_; clear hk a; intro a hk) | fail))
        exact done1 hk (h := ⟨rfl, hS.nil⟩)
  · rw [decide_eq_false hf]
    by_cases h1 : k = 2
    · have hp1 : ¬ pt = ⟨#[]⟩ := fun h => hf ⟨h1, .inl h⟩
      have hp2 : ¬ pt = ⟨#[42]⟩ := fun h => hf ⟨h1, .inr (.inl h)⟩
      have hp3 : ¬ pt = tag := fun h => hf ⟨h1, .inr (.inr h)⟩
      refine enter Try.func29 rfl Try.ntmps29 rfl (fun a hk => ?_); have hS := St.refl w0
      (repeat' (first | (show wpListIn _ _ _ _ _ (_ :: _) _ _; first | (refine wx1 ?_; clear hk a; intro a hk) | (refine wx2 ?_ ?_ <;> (intro hp; clear hk a; intro a hk)) | (refine wx3 ?_; clear hk hS a; intro w b hS a hk) | (refine wx4 ?_; clear hk hS a; intro w hS a hk) | (refine wx5 ?_; clear hk hS a; intro w v hS a hk) | fail) | refine wx0 ?_ | (refine s_end hk ?_; clear hk a; intro a hk) | fail))
      exact done1 hk (h := ⟨rfl, hS.nil⟩)
    · refine enter Try.func29 rfl Try.ntmps29 rfl (fun a hk => ?_); have hS := St.refl w0
      (repeat' (first | (show wpListIn _ _ _ _ _ (_ :: _) _ _; first | (refine wx1 ?_; clear hk a; intro a hk) | (refine wx2 ?_ ?_ <;> (intro hp; clear hk a; intro a hk)) | (refine wx3 ?_; clear hk hS a; intro w b hS a hk) | (refine wx4 ?_; clear hk hS a; intro w hS a hk) | (refine wx5 ?_; clear hk hS a; intro w v hS a hk) | fail) | refine wx0 ?_ | (refine s_end hk ?_; clear hk a; intro a hk) | fail))
      exact done1 hk (h := ⟨rfl, hS.nil⟩)
end Go.Proofs.Ytcahaaapmaahnaa
namespace Go.Proofs.Ytcahaaapmaahnaa
open Go.RowKit
set_option maxRecDepth 100000
attribute [local irreducible] Go.Code.wpIn Go.wpListIn Go.Calls Gives Go.Exit.then Go.Exit.inBlock Done ObxE

abbrev Ent := Int × Int × Int × Int × Int

set_option maxHeartbeats 1000000 in
theorem insR_any {B : Bs} {w : World} {L : List HP} {xs : List Ent} {e : Ent} {i : Nat} {v ve : Value} (hS : St B (OwT 78 xs v :: OwT 78 [e] ve :: L) w) (hi : i ≤ xs.length) (hl : xs.length ≤ 1000) :
    Calls Try.prog 26 #[v, .int .i64 (i : Int), ve] w (Ret fun v' w' => St B (OwT 78 (insF xs i e) v' :: L) w') := by
  have hx : SlT xs v w := OwT.rd (hS.rd (A := OwT 78 xs v) (by (repeat (first | exact At.here | apply At.there))))
  have he : SlT [e] ve w := OwT.rd (hS.rd (A := OwT 78 [e] ve) (by (repeat (first | exact At.here | apply At.there))))
  have h1l : ([e] : List Ent).length = 1 := rfl
  by_cases hin : i = xs.length
  · subst hin
    refine enter Try.func26 rfl Try.ntmps26 rfl (fun a hk => ?_)
    (repeat' (first | (show wpListIn _ _ _ _ _ (_ :: _) _ _; first | (refine wx1 ?_; clear hk a; intro a hk) | (refine wx2 ?_ ?_ <;> (intro hp; clear hk a; intro a hk)) | (refine wx3 ?_; clear hk hS a; intro w b hS a hk) | (refine wx4 ?_; clear hk hS a; intro w hS a hk) | (refine wx5 ?_; clear hk hS a; intro w v hS a hk) | fail) | refine wx0 ?_ | (refine s_end hk ?_; clear hk a; intro a hk) | fail))
    refine sg hk (g_partF (i := xs.length) hk ?_ (ht := eT rfl) (hs := (by first | exact St.rdT hS (by assumption) | exact OwT.rd (hS.rd (A := OwT _ _ _) (by (repeat (first | exact At.here | apply At.there)))) | assumption)) (hE := zT rfl) (hi := by omega)); clear hk a; intro vq hvq a hk
    (repeat' (first | (show wpListIn _ _ _ _ _ (_ :: _) _ _; first | (refine wx1 ?_; clear hk a; intro a hk) | (refine wx2 ?_ ?_ <;> (intro hp; clear hk a; intro a hk)) | (refine wx3 ?_; clear hk hS a; intro w b hS a hk) | (refine wx4 ?_; clear hk hS a; intro w hS a hk) | (refine wx5 ?_; clear hk hS a; intro w v hS a hk) | fail) | refine wx0 ?_ | (refine s_end hk ?_; clear hk a; intro a hk) | fail))
    refine done1 hk (h := ?_)
    have e1 : insF xs xs.length e = xs ++ [e] := by simp [insF]
    rw [e1]
    exact hS
  · obtain ⟨b, off, cap, rfl, _, _⟩ := hS.ownCells (E := 78) (xs := xs) At.here (by intro h; subst h; simp at hi hin; exact hin hi)
    obtain ⟨b', off', cap', rfl, _, _⟩ := hS.ownCells (E := 78) (xs := [e]) (At.there At.here) (by simp)
    obtain ⟨vs, hS1, hvl, hnc, hcm, hcl, hvs⟩ := hS.ownPts At.here
    obtain ⟨vs', hS2, hvl', hnc', hcm', hcl', hvs'⟩ := hS1.ownPts (At.there At.here)
    replace hS := hS2
    have hvn : vs ≠ [] := by
      intro h
      rw [h, List.length_nil] at hvl
      have := Nat.le_mul_of_pos_right cap (show 0 < Enc.k Ent + 1 by omega)
      omega
    clear hS1 hS2
    by_cases hc : xs.length + 1 ≤ cap
    · refine enter Try.func26 rfl Try.ntmps26 rfl (fun a hk => ?_)
      (repeat' (first | (show wpListIn _ _ _ _ _ (_ :: _) _ _; first | (refine wx1 ?_; clear hk a; intro a hk) | (refine wx2 ?_ ?_ <;> (intro hp; clear hk a; intro a hk)) | (refine wx3 ?_; clear hk hS a; intro w b hS a hk) | (refine wx4 ?_; clear hk hS a; intro w hS a hk) | (refine wx5 ?_; clear hk hS a; intro w v hS a hk) | fail) | refine wx0 ?_ | (refine s_end hk ?_; clear hk a; intro a hk) | fail))
      refine sg hk (g_partF (i := i) hk ?_ (ht := eT rfl) (hs := (by first | exact St.rdT hS (by assumption) | exact OwT.rd (hS.rd (A := OwT _ _ _) (by (repeat (first | exact At.here | apply At.there)))) | assumption)) (hE := zT rfl) (hi := by omega)); clear hk a; intro vq hvq a hk
      (repeat' (first | (show wpListIn _ _ _ _ _ (_ :: _) _ _; first | (refine wx1 ?_; clear hk a; intro a hk) | (refine wx2 ?_ ?_ <;> (intro hp; clear hk a; intro a hk)) | (refine wx3 ?_; clear hk hS a; intro w b hS a hk) | (refine wx4 ?_; clear hk hS a; intro w hS a hk) | (refine wx5 ?_; clear hk hS a; intro w v hS a hk) | fail) | refine wx0 ?_ | (refine s_end hk ?_; clear hk a; intro a hk) | fail))
      refine sg hk (g_capC hk ?_ (ht := eT rfl)); clear hk a; intro a hk
      (repeat' (first | (show wpListIn _ _ _ _ _ (_ :: _) _ _; first | (refine wx1 ?_; clear hk a; intro a hk) | (refine wx2 ?_ ?_ <;> (intro hp; clear hk a; intro a hk)) | (refine wx3 ?_; clear hk hS a; intro w b hS a hk) | (refine wx4 ?_; clear hk hS a; intro w hS a hk) | (refine wx5 ?_; clear hk hS a; intro w v hS a hk) | fail) | refine wx0 ?_ | (refine s_end hk ?_; clear hk a; intro a hk) | fail))
      refine sg hk (g_slTc (xs.length + 1) (k := Enc.k Ent) hk ?_ (ht := eT rfl) (hE := zT rfl) (hp := by omega) (hj := by omega)); clear hk a; intro a hk
      (repeat' (first | (show wpListIn _ _ _ _ _ (_ :: _) _ _; first | (refine wx1 ?_; clear hk a; intro a hk) | (refine wx2 ?_ ?_ <;> (intro hp; clear hk a; intro a hk)) | (refine wx3 ?_; clear hk hS a; intro w b hS a hk) | (refine wx4 ?_; clear hk hS a; intro w hS a hk) | (refine wx5 ?_; clear hk hS a; intro w v hS a hk) | fail) | refine wx0 ?_ | (refine s_end hk ?_; clear hk a; intro a hk) | fail))
      refine sg hk (g_slFc (i + 1) (k := Enc.k Ent) hk ?_ (ht := eT rfl) (hE := zT rfl) (hp := by omega) (him := by omega) (hc := by omega)); clear hk a; intro a hk
      (repeat' (first | (show wpListIn _ _ _ _ _ (_ :: _) _ _; first | (refine wx1 ?_; clear hk a; intro a hk) | (refine wx2 ?_ ?_ <;> (intro hp; clear hk a; intro a hk)) | (refine wx3 ?_; clear hk hS a; intro w b hS a hk) | (refine wx4 ?_; clear hk hS a; intro w hS a hk) | (refine wx5 ?_; clear hk hS a; intro w v hS a hk) | fail) | refine wx0 ?_ | (refine s_end hk ?_; clear hk a; intro a hk) | fail))
      refine sg hk (g_ovl hk hS ?_ (hf := Try.func36) (hname := by kernel_rfl) (hb := by kernel_rfl) (hn := by kernel_rfl) (he := by kernel_rfl) (ht := eT rfl) (hE := zT rfl) (tS := 61) (tR := 4) (hne := hvn)); clear hk a; intro a hk
      (repeat' (first | (show wpListIn _ _ _ _ _ (_ :: _) _ _; first | (refine wx1 ?_; clear hk a; intro a hk) | (refine wx2 ?_ ?_ <;> (intro hp; clear hk a; intro a hk)) | (refine wx3 ?_; clear hk hS a; intro w b hS a hk) | (refine wx4 ?_; clear hk hS a; intro w hS a hk) | (refine wx5 ?_; clear hk hS a; intro w v hS a hk) | fail) | refine wx0 ?_ | (refine s_end hk ?_; clear hk a; intro a hk) | fail))
      replace hS := hS.sub (.cons (.there .here) (.cons .here .refl))
      refine wp_drawnU1 9 mixed (by kernel_rfl) hk hS ?_; clear hk hS a
      (repeat' (first | (show ObxE _ _ _ _ _ _ _ _ _ (_ :: _) _ _ _; first | refine ox1 ?_ | (refine ox2 ?_ ?_ <;> intro hp) | fail) | fail))
      refine' obe_val (fun us a w hk hd hS => ?_) ?_; rotate_left; focus (have hk := Kn.vw hk (by repeat (first | exact VW.nil | apply VW.val rfl | apply VW.base rfl rfl | apply VW.res rfl | apply VW.upd rfl | apply VW.cpy rfl | apply VW.dep rfl | apply VW.fn rfl | apply VW.lnd rfl | apply VW.tak rfl)); exact g_slFc (i + 1) (k := Enc.k Ent) hk (same _ _) (ht := eT rfl) (hE := zT rfl) (hp := by omega) (him := by omega) (hc := by omega))
      (repeat' (first | (show ObxE _ _ _ _ _ _ _ _ _ (_ :: _) _ _ _; first | refine ox1 ?_ | (refine ox2 ?_ ?_ <;> intro hp) | fail) | fail))
      refine' obe_val (fun us a w hk hd hS => ?_) ?_; rotate_left; focus (have hk := Kn.vw hk (by repeat (first | exact VW.nil | apply VW.val rfl | apply VW.base rfl rfl | apply VW.res rfl | apply VW.upd rfl | apply VW.cpy rfl | apply VW.dep rfl | apply VW.fn rfl | apply VW.lnd rfl | apply VW.tak rfl)); exact g_slFc i (k := Enc.k Ent) hk (same _ _) (ht := eT rfl) (hE := zT rfl) (hp := by omega) (him := by omega) (hc := by omega))
      (repeat' (first | (show ObxE _ _ _ _ _ _ _ _ _ (_ :: _) _ _ _; first | refine ox1 ?_ | (refine ox2 ?_ ?_ <;> intro hp) | fail) | fail))
      refine' obe_upd (pts b vs 78) (V := fun _ => pts b (splice vs (off + (i + 1) * (Enc.k Ent + 1)) (enc (xs.drop i))) 78) (fun us a w X hk hd hS hL => ?_) ?_
      · have hk := Kn.vw hk (by repeat (first | exact VW.nil | apply VW.val rfl | apply VW.base rfl rfl | apply VW.res rfl | apply VW.upd rfl | apply VW.cpy rfl | apply VW.dep rfl | apply VW.fn rfl | apply VW.lnd rfl | apply VW.tak rfl))
        exact g_copyC (E := 78) (k := Enc.k Ent) hk hS (fun w' hS' => hS') (q := xs.length - i) (ht := eT rfl) (hE := zT rfl) (hq := by simp only [Nat.min_def]; split <;> omega) (hl := by rw [enc_len, List.length_drop]) (hsrc := Cells.dropT i (pts.block (hS.rd At.here)) hvs) (h1 := enc_one _)
          (hfit := by rw [enc_len, List.length_drop, Nat.add_assoc, ← Nat.add_mul]; exact Nat.le_trans (Nat.add_le_add_left (Nat.mul_le_mul_right _ (by omega)) _) hvl)
      (repeat' (first | (show ObxE _ _ _ _ _ _ _ _ _ (_ :: _) _ _ _; first | refine ox1 ?_ | (refine ox2 ?_ ?_ <;> intro hp) | fail) | fail))
      refine obe_nil ⟨rfl, ?_⟩; intro us a w hk hS
      simp only [resE] at hS
      (repeat' (first | (show wpListIn _ _ _ _ _ (_ :: _) _ _; first | (refine wx1 ?_; clear hk a; intro a hk) | (refine wx2 ?_ ?_ <;> (intro hp; clear hk a; intro a hk)) | (refine wx3 ?_; clear hk hS a; intro w b hS a hk) | (refine wx4 ?_; clear hk hS a; intro w hS a hk) | (refine wx5 ?_; clear hk hS a; intro w v hS a hk) | fail) | refine wx0 ?_ | (refine s_end hk ?_; clear hk a; intro a hk) | fail))
      refine sg hk (g_slFc i (k := Enc.k Ent) hk ?_ (ht := eT rfl) (hE := zT rfl) (hp := by omega) (him := by omega) (hc := by omega)); clear hk a; intro a hk
      (repeat' (first | (show wpListIn _ _ _ _ _ (_ :: _) _ _; first | (refine wx1 ?_; clear hk a; intro a hk) | (refine wx2 ?_ ?_ <;> (intro hp; clear hk a; intro a hk)) | (refine wx3 ?_; clear hk hS a; intro w b hS a hk) | (refine wx4 ?_; clear hk hS a; intro w hS a hk) | (refine wx5 ?_; clear hk hS a; intro w v hS a hk) | fail) | refine wx0 ?_ | (refine s_end hk ?_; clear hk a; intro a hk) | fail))
      refine sg hk (g_copyC (E := 78) (k := Enc.k Ent) hk hS ?_ (q := 1) (ht := eT rfl) (hE := zT rfl) (hq := by simp only [Nat.min_def]; split <;> omega) (hl := by rw [Enc.len, Nat.one_mul]) (hsrc := ?_) (h1 := Enc.one e) (hfit := ?_))
      rotate_left
      · have := Cells.takeT (xs := [e]) 1 (pts.block (hS.rd (A := pts b' vs' 78) (by (repeat (first | exact At.here | apply At.there))))) hvs'
        rwa [List.take_of_length_le (by rw [h1l]; exact Nat.le_refl 1), enc_single] at this
      · rw [splice_len, Enc.len, Nat.add_assoc, ← Nat.succ_mul]
        exact Nat.le_trans (Nat.add_le_add_left (Nat.mul_le_mul_right _ (by omega)) _) hvl
      clear hk hS a
      intro w hS a hk
      (repeat' (first | (show wpListIn _ _ _ _ _ (_ :: _) _ _; first | (refine wx1 ?_; clear hk a; intro a hk) | (refine wx2 ?_ ?_ <;> (intro hp; clear hk a; intro a hk)) | (refine wx3 ?_; clear hk hS a; intro w b hS a hk) | (refine wx4 ?_; clear hk hS a; intro w hS a hk) | (refine wx5 ?_; clear hk hS a; intro w v hS a hk) | fail) | refine wx0 ?_ | (refine s_end hk ?_; clear hk a; intro a hk) | fail))
      obtain ⟨hl0, hc0⟩ := ins_cells (xs := xs) (i := i) (off := off) (e := e) (vs := vs) (by omega) (Nat.le_trans (Nat.add_le_add_left (Nat.mul_le_mul_right _ hc) _) hvl) (fun j u hj => by
        rw [← enc_take, List.getElem?_take] at hj
        split at hj
        · exact hvs j u hj
        · cases hj) (.inl rfl)
      have hF := hS.toOwn (ys := insF xs i e) At.here (by rw [insF_len hi]; exact hc) hcm (by rw [hl0]; exact hvl) hc0
      rw [insF_len hi] at hF
      exact done1 hk (h := hF.sub (.cons .here Sub.cons_drop))
    · refine enter Try.func26 rfl Try.ntmps26 rfl (fun a hk => ?_)
      (repeat' (first | (show wpListIn _ _ _ _ _ (_ :: _) _ _; first | (refine wx1 ?_; clear hk a; intro a hk) | (refine wx2 ?_ ?_ <;> (intro hp; clear hk a; intro a hk)) | (refine wx3 ?_; clear hk hS a; intro w b hS a hk) | (refine wx4 ?_; clear hk hS a; intro w hS a hk) | (refine wx5 ?_; clear hk hS a; intro w v hS a hk) | fail) | refine wx0 ?_ | (refine s_end hk ?_; clear hk a; intro a hk) | fail))
      refine sg hk (g_partF (i := i) hk ?_ (ht := eT rfl) (hs := (by first | exact St.rdT hS (by assumption) | exact OwT.rd (hS.rd (A := OwT _ _ _) (by (repeat (first | exact At.here | apply At.there)))) | assumption)) (hE := zT rfl) (hi := by omega)); clear hk a; intro vq hvq a hk
      (repeat' (first | (show wpListIn _ _ _ _ _ (_ :: _) _ _; first | (refine wx1 ?_; clear hk a; intro a hk) | (refine wx2 ?_ ?_ <;> (intro hp; clear hk a; intro a hk)) | (refine wx3 ?_; clear hk hS a; intro w b hS a hk) | (refine wx4 ?_; clear hk hS a; intro w hS a hk) | (refine wx5 ?_; clear hk hS a; intro w v hS a hk) | fail) | refine wx0 ?_ | (refine s_end hk ?_; clear hk a; intro a hk) | fail))
      refine sg hk (g_capC hk ?_ (ht := eT rfl)); clear hk a; intro a hk
      (repeat' (first | (show wpListIn _ _ _ _ _ (_ :: _) _ _; first | (refine wx1 ?_; clear hk a; intro a hk) | (refine wx2 ?_ ?_ <;> (intro hp; clear hk a; intro a hk)) | (refine wx3 ?_; clear hk hS a; intro w b hS a hk) | (refine wx4 ?_; clear hk hS a; intro w hS a hk) | (refine wx5 ?_; clear hk hS a; intro w v hS a hk) | fail) | refine wx0 ?_ | (refine s_end hk ?_; clear hk a; intro a hk) | fail))
      refine sg hk (g_slTc i (k := Enc.k Ent) hk ?_ (ht := eT rfl) (hE := zT rfl) (hp := by omega) (hj := by omega)); clear hk a; intro a hk
      (repeat' (first | (show wpListIn _ _ _ _ _ (_ :: _) _ _; first | (refine wx1 ?_; clear hk a; intro a hk) | (refine wx2 ?_ ?_ <;> (intro hp; clear hk a; intro a hk)) | (refine wx3 ?_; clear hk hS a; intro w b hS a hk) | (refine wx4 ?_; clear hk hS a; intro w hS a hk) | (refine wx5 ?_; clear hk hS a; intro w v hS a hk) | fail) | refine wx0 ?_ | (refine s_end hk ?_; clear hk a; intro a hk) | fail))
      refine sg hk (g_appZ (cs := enc (xs.take i)) (i := i) (q := xs.length + 1 - i) (k := Enc.k Ent) hk hS ?_ (hp := by omega) (ht := eT rfl) (htx := iT rfl) (hE := zT rfl) (hz := oT rfl) (hzs := rfl) (hz1 := by decide) (hby := bT rfl) (h0 := by omega) (hc := by omega) (hl := by rw [enc_len, List.length_take, Nat.min_eq_left hi]) (hcs := Cells.takeT i (pts.block (hS.rd (A := pts b vs 78) (by (repeat (first | exact At.here | apply At.there))))) hvs) (h1 := enc_one _) (hbytes := by omega) (h63 := by simp only [maxLen]; omega))
      clear hk hS a
      intro w b2 c2 zs hg1 hg2 hg3 hg4 hg5 hS a hk
      rw [show i + (xs.length + 1 - i) = xs.length + 1 by omega] at hk hg1
      (repeat' (first | (show wpListIn _ _ _ _ _ (_ :: _) _ _; first | (refine wx1 ?_; clear hk a; intro a hk) | (refine wx2 ?_ ?_ <;> (intro hp; clear hk a; intro a hk)) | (refine wx3 ?_; clear hk hS a; intro w b hS a hk) | (refine wx4 ?_; clear hk hS a; intro w hS a hk) | (refine wx5 ?_; clear hk hS a; intro w v hS a hk) | fail) | refine wx0 ?_ | (refine s_end hk ?_; clear hk a; intro a hk) | fail))
      refine sg hk (g_slFc i (k := Enc.k Ent) hk ?_ (ht := eT rfl) (hE := zT rfl) (hp := by omega) (him := by omega) (hc := by omega)); clear hk a; intro a hk
      (repeat' (first | (show wpListIn _ _ _ _ _ (_ :: _) _ _; first | (refine wx1 ?_; clear hk a; intro a hk) | (refine wx2 ?_ ?_ <;> (intro hp; clear hk a; intro a hk)) | (refine wx3 ?_; clear hk hS a; intro w b hS a hk) | (refine wx4 ?_; clear hk hS a; intro w hS a hk) | (refine wx5 ?_; clear hk hS a; intro w v hS a hk) | fail) | refine wx0 ?_ | (refine s_end hk ?_; clear hk a; intro a hk) | fail))
      refine sg hk (g_copyC (E := 78) (k := Enc.k Ent) hk hS ?_ (q := 1) (ht := eT rfl) (hE := zT rfl) (hq := by simp only [Nat.min_def]; split <;> omega) (hl := by rw [Enc.len, Nat.one_mul]) (hsrc := ?_) (h1 := Enc.one e) (hfit := ?_))
      rotate_left
      · have := Cells.takeT (xs := [e]) 1 (pts.block (hS.rd (A := pts b' vs' 78) (by (repeat (first | exact At.here | apply At.there))))) hvs'
        rwa [List.take_of_length_le (by rw [h1l]; exact Nat.le_refl 1), enc_single] at this
      · rw [Enc.len, Nat.add_assoc, ← Nat.succ_mul, Nat.zero_add, hg3]
        exact Nat.mul_le_mul_right _ (by omega)
      clear hk hS a
      intro w hS a hk
      (repeat' (first | (show wpListIn _ _ _ _ _ (_ :: _) _ _; first | (refine wx1 ?_; clear hk a; intro a hk) | (refine wx2 ?_ ?_ <;> (intro hp; clear hk a; intro a hk)) | (refine wx3 ?_; clear hk hS a; intro w b hS a hk) | (refine wx4 ?_; clear hk hS a; intro w hS a hk) | (refine wx5 ?_; clear hk hS a; intro w v hS a hk) | fail) | refine wx0 ?_ | (refine s_end hk ?_; clear hk a; intro a hk) | fail))
      refine wp_drawnU1 9 mixed (by kernel_rfl) hk hS ?_; clear hk hS a
      (repeat' (first | (show ObxE _ _ _ _ _ _ _ _ _ (_ :: _) _ _ _; first | refine ox1 ?_ | (refine ox2 ?_ ?_ <;> intro hp) | fail) | fail))
      refine' obe_val (fun us a w hk hd hS => ?_) ?_; rotate_left; focus (have hk := Kn.vw hk (by repeat (first | exact VW.nil | apply VW.val rfl | apply VW.base rfl rfl | apply VW.res rfl | apply VW.upd rfl | apply VW.cpy rfl | apply VW.dep rfl | apply VW.fn rfl | apply VW.lnd rfl | apply VW.tak rfl)); exact g_slFc (i + 1) (k := Enc.k Ent) hk (same _ _) (ht := eT rfl) (hE := zT rfl) (hp := by omega) (him := by omega) (hc := by omega))
      (repeat' (first | (show ObxE _ _ _ _ _ _ _ _ _ (_ :: _) _ _ _; first | refine ox1 ?_ | (refine ox2 ?_ ?_ <;> intro hp) | fail) | fail))
      refine' obe_val (fun us a w hk hd hS => ?_) ?_; rotate_left; focus (have hk := Kn.vw hk (by repeat (first | exact VW.nil | apply VW.val rfl | apply VW.base rfl rfl | apply VW.res rfl | apply VW.upd rfl | apply VW.cpy rfl | apply VW.dep rfl | apply VW.fn rfl | apply VW.lnd rfl | apply VW.tak rfl)); exact g_slFc i (k := Enc.k Ent) hk (same _ _) (ht := eT rfl) (hE := zT rfl) (hp := by omega) (him := by omega) (hc := by omega))
      (repeat' (first | (show ObxE _ _ _ _ _ _ _ _ _ (_ :: _) _ _ _; first | refine ox1 ?_ | (refine ox2 ?_ ?_ <;> intro hp) | fail) | fail))
      refine' obe_upd (pts b2 (splice zs (0 + i * (Enc.k Ent + 1)) (Enc.f e)) 78) (V := fun _ => pts b2 (splice (splice zs (0 + i * (Enc.k Ent + 1)) (Enc.f e)) (0 + (i + 1) * (Enc.k Ent + 1)) (enc (xs.drop i))) 78) (fun us a w X hk hd hS hL => ?_) ?_
      · have hk := Kn.vw hk (by repeat (first | exact VW.nil | apply VW.val rfl | apply VW.base rfl rfl | apply VW.res rfl | apply VW.upd rfl | apply VW.cpy rfl | apply VW.dep rfl | apply VW.fn rfl | apply VW.lnd rfl | apply VW.tak rfl))
        exact g_copyC (E := 78) (k := Enc.k Ent) hk hS (fun w' hS' => hS') (q := xs.length - i) (ht := eT rfl) (hE := zT rfl) (hq := by simp only [Nat.min_def]; split <;> omega) (hl := by rw [enc_len, List.length_drop]) (hsrc := Cells.dropT i (pts.block (hL.rd (A := pts b vs 78) (by (repeat (first | exact At.here | apply At.there))))) hvs) (h1 := enc_one _)
          (hfit := by rw [splice_len, enc_len, List.length_drop, Nat.add_assoc, ← Nat.add_mul, Nat.zero_add, hg3]; exact Nat.mul_le_mul_right _ (by omega))
      (repeat' (first | (show ObxE _ _ _ _ _ _ _ _ _ (_ :: _) _ _ _; first | refine ox1 ?_ | (refine ox2 ?_ ?_ <;> intro hp) | fail) | fail))
      refine obe_nil ⟨rfl, ?_⟩; intro us a w hk hS
      simp only [resE] at hS
      (repeat' (first | (show wpListIn _ _ _ _ _ (_ :: _) _ _; first | (refine wx1 ?_; clear hk a; intro a hk) | (refine wx2 ?_ ?_ <;> (intro hp; clear hk a; intro a hk)) | (refine wx3 ?_; clear hk hS a; intro w b hS a hk) | (refine wx4 ?_; clear hk hS a; intro w hS a hk) | (refine wx5 ?_; clear hk hS a; intro w v hS a hk) | fail) | refine wx0 ?_ | (refine s_end hk ?_; clear hk a; intro a hk) | fail))
      obtain ⟨hl0, hc0⟩ := ins_cells (xs := xs) (i := i) (off := 0) (e := e) (vs := zs) (by omega) (by rw [Nat.zero_add, hg3]; exact Nat.mul_le_mul_right _ hg1) (fun j u hj => by rw [Nat.zero_add]; exact hg4 j u hj) (.inr rfl)
      have hF := hS.toOwn (ys := insF xs i e) At.here (by rw [insF_len hi]; exact hg1) hg2 (by rw [hl0, Nat.zero_add, hg3]; exact Nat.le_refl _) hc0
      rw [insF_len hi] at hF
      exact done1 hk (h := hF.sub (.cons .here (Sub.under Sub.cons_drop)))

end Go.Proofs.Ytcahaaapmaahnaa
namespace Go.Proofs.Ytcahaaapmaahnaa
open Go.RowKit
set_option maxRecDepth 100000
attribute [local irreducible] Go.Code.wpIn Go.wpListIn Go.Calls Gives Go.Exit.then Go.Exit.inBlock Done ObxE

def satF (x : Int) : Int := max (-2147483648) (min x 2147483647)
def addF (a b : Int) : Int := satF (satF a + satF b)
def subF (a b : Int) : Int := satF (satF a - satF b)
end Go.Proofs.Ytcahaaapmaahnaa
namespace Go.Proofs.Ytcahaaapmaahnaa
open Go.RowKit
set_option maxRecDepth 100000
attribute [local irreducible] Go.Code.wpIn Go.wpListIn Go.Calls Gives Go.Exit.then Go.Exit.inBlock Done ObxE

def rectV (X Y W H : Int) : List Value := [.int .i64 X, .int .i64 Y, .int .i64 W, .int .i64 H]

def hasF (X Y W H x y : Int) : Bool := decide (X ≤ x ∧ x < addF X W ∧ Y ≤ y ∧ y < addF Y H)

end Go.Proofs.Ytcahaaapmaahnaa
