/- Layer 13: what is where. Layer 33: nodes that hear, each with the way to it; the way to a node; who has a point. -/
import Derived.Test.YtcahaaapmaahnaaE09
set_option linter.all false
namespace Go.Proofs.Ytcahaaapmaahnaa
open Go.RowKit
set_option maxRecDepth 100000
attribute [local irreducible] Go.Code.wpIn Go.wpListIn Go.Calls Gives Go.Exit.then Go.Exit.inBlock Done ObxE

theorem cmpI_any (x y : Int) (w0 : World) : Calls Try.prog 35 #[.int .i64 x, .int .i64 y] w0 (Ret fun v w => v = .int .i64 (cmpF x y) ∧ St w0 [] w) := by
  have nan : ∀ (z : Int) (w0 : World), Calls Try.prog 45 #[.int .i64 z] w0 (Ret fun v w => v = .bool false ∧ St w0 [] w) := by
    intro z w0
    refine enter Try.func45 rfl Try.ntmps45 rfl (fun a hk => ?_); have hS := St.refl w0
    (repeat' (first | (show wpListIn _ _ _ _ _ (_ :: _) _ _; first | (refine wx1 ?_; clear hk a; intro a hk) | (refine wx2 ?_ ?_ <;> (intro hp; clear hk a; intro a hk)) | (refine wx3 ?_; clear hk hS a; intro w b hS a hk) | (refine wx4 ?_; clear hk hS a; intro w hS a hk) | (refine wx5 ?_; clear hk hS a; intro w v hS a hk) | fail) | refine wx0 ?_ | (refine s_end hk ?_; clear hk a; intro a hk) | fail))
    all_goals exact done1 hk (h := ⟨rfl, hS.nil⟩)
  refine enter Try.func35 rfl Try.ntmps35 rfl (fun a hk => ?_); have hS := St.refl w0
  (repeat' (first | (show wpListIn _ _ _ _ _ (_ :: _) _ _; first | (refine wx1 ?_; clear hk a; intro a hk) | (refine wx2 ?_ ?_ <;> (intro hp; clear hk a; intro a hk)) | (refine wx3 ?_; clear hk hS a; intro w b hS a hk) | (refine wx4 ?_; clear hk hS a; intro w hS a hk) | (refine wx5 ?_; clear hk hS a; intro w v hS a hk) | fail) | refine wx0 ?_ | (refine s_end hk ?_; clear hk a; intro a hk) | fail))
  refine sg hk (g_callO hk (hf := by kernel_rfl) (hc := nan x _) (h := ?_)); clear hk a; rintro _ w ⟨rfl, hS1⟩ a hk; replace hS := hS.call0 hS1; clear hS1
  (repeat' (first | (show wpListIn _ _ _ _ _ (_ :: _) _ _; first | (refine wx1 ?_; clear hk a; intro a hk) | (refine wx2 ?_ ?_ <;> (intro hp; clear hk a; intro a hk)) | (refine wx3 ?_; clear hk hS a; intro w b hS a hk) | (refine wx4 ?_; clear hk hS a; intro w hS a hk) | (refine wx5 ?_; clear hk hS a; intro w v hS a hk) | fail) | refine wx0 ?_ | (refine s_end hk ?_; clear hk a; intro a hk) | fail))
  refine sg hk (g_callO hk (hf := by kernel_rfl) (hc := nan y _) (h := ?_)); clear hk a; rintro _ w ⟨rfl, hS1⟩ a hk; replace hS := hS.call0 hS1; clear hS1
  (repeat' (first | (show wpListIn _ _ _ _ _ (_ :: _) _ _; first | (refine wx1 ?_; clear hk a; intro a hk) | (refine wx2 ?_ ?_ <;> (intro hp; clear hk a; intro a hk)) | (refine wx3 ?_; clear hk hS a; intro w b hS a hk) | (refine wx4 ?_; clear hk hS a; intro w hS a hk) | (refine wx5 ?_; clear hk hS a; intro w v hS a hk) | fail) | refine wx0 ?_ | (refine s_end hk ?_; clear hk a; intro a hk) | fail))
  · have h1 : x < y := by assumption
    exact done1 hk (h := ⟨by simp [cmpF, Lin.lt, h1], hS.nil⟩)
  · have h1 : y < x := by assumption
    have h2 : ¬ x < y := by omega
    exact done1 hk (h := ⟨by simp [cmpF, Lin.lt, h1, h2], hS.nil⟩)
  · have h1 : ¬ y < x := by assumption
    have h2 : ¬ x < y := by assumption
    exact done1 hk (h := ⟨by simp [cmpF, Lin.lt, h1, h2], hS.nil⟩)

theorem where1_any (e : Ent) (id : Int) (w0 : World) : Calls Try.prog 34 #[.agg (Enc.f e).toArray, .int .i64 id] w0 (Ret fun v w => v = .int .i64 (cmpF e.1 id) ∧ St w0 [] w) := by
  obtain ⟨i, X, Y, W, H⟩ := e
  refine enter Try.func34 rfl Try.ntmps34 rfl (fun a hk => ?_); have hS := St.refl w0
  (repeat' (first | (show wpListIn _ _ _ _ _ (_ :: _) _ _; first | (refine wx1 ?_; clear hk a; intro a hk) | (refine wx2 ?_ ?_ <;> (intro hp; clear hk a; intro a hk)) | (refine wx3 ?_; clear hk hS a; intro w b hS a hk) | (refine wx4 ?_; clear hk hS a; intro w hS a hk) | (refine wx5 ?_; clear hk hS a; intro w v hS a hk) | fail) | refine wx0 ?_ | (refine s_end hk ?_; clear hk a; intro a hk) | fail))
  refine sg hk (g_callO hk (hf := by kernel_rfl) (hc := cmpI_any _ _ _) (h := ?_)); clear hk a; rintro _ w ⟨rfl, hS1⟩ a hk; replace hS := hS.call0 hS1; clear hS1
  (repeat' (first | (show wpListIn _ _ _ _ _ (_ :: _) _ _; first | (refine wx1 ?_; clear hk a; intro a hk) | (refine wx2 ?_ ?_ <;> (intro hp; clear hk a; intro a hk)) | (refine wx3 ?_; clear hk hS a; intro w b hS a hk) | (refine wx4 ?_; clear hk hS a; intro w hS a hk) | (refine wx5 ?_; clear hk hS a; intro w v hS a hk) | fail) | refine wx0 ?_ | (refine s_end hk ?_; clear hk a; intro a hk) | fail))
  exact done1 hk (h := ⟨rfl, hS.nil⟩)

abbrev eid (e : Ent) : Int := e.1
set_option maxHeartbeats 1000000 in
theorem bsR_any (es : List Ent) (x : Int) (v : Value) (w0 : World) (hv : SlT es v w0) (hl : es.length ≤ 1000) (hr : Rises eid es) :
    Calls Try.prog 33 #[v, .int .i64 x, .func (.func 34) #[] #[]] w0
    (Ret fun v w => ∃ (n : Nat) (f : Bool), v = .tuple #[.int .i64 n, .bool f] ∧ Found eid es x n f ∧ St w0 [] w) := by
  have hpw := List.pairwise_iff_getElem.1 hr
  refine enter Try.func33 rfl Try.ntmps33 rfl (fun a hk => ?_); have hS := St.refl w0
  (repeat' (first | (show wpListIn _ _ _ _ _ (_ :: _) _ _; first | (refine wx1 ?_; clear hk a; intro a hk) | (refine wx2 ?_ ?_ <;> (intro hp; clear hk a; intro a hk)) | (refine wx3 ?_; clear hk hS a; intro w b hS a hk) | (refine wx4 ?_; clear hk hS a; intro w hS a hk) | (refine wx5 ?_; clear hk hS a; intro w v hS a hk) | fail) | refine wx0 ?_ | (refine s_end hk ?_; clear hk a; intro a hk) | fail))
  replace hk := Kn.kp [0, 1, 2, 8, 9, 10] hk
  refine wp_while (fun x : Nat × Nat => [(9, .int .i64 (x.1 : Int)), (10, .int .i64 (x.2 : Int))]) (fun _ => []) (fun s => s.1 ≤ s.2 ∧ s.2 ≤ es.length ∧ (∀ i (h : i < es.length), i < s.1 → Lin.lt (eid es[i]) x = true) ∧ (∀ i (h : i < es.length), s.2 ≤ i → Lin.lt (eid es[i]) x = false))
    (fun x => x.2 - x.1) (0, es.length) hk (by repeat (first | exact trivial | refine ⟨rfl, ?_⟩)) hS ⟨by simp only; omega, by simp only; omega, fun i _ h => by simp only at h; omega, fun i _ h => by simp only at h; omega⟩ ?_
  clear hk hS a
  rintro ⟨i, j⟩ a w hk hS ⟨h1, h2, h3, h4⟩
  simp only at hk h1 h2 h3 h4
  (repeat' (first | (show wpListIn _ _ _ _ _ (_ :: _) _ _; first | (refine wx1 ?_; clear hk a; intro a hk) | (refine wx2 ?_ ?_ <;> (intro hp; clear hk a; intro a hk)) | (refine wx3 ?_; clear hk hS a; intro w b hS a hk) | (refine wx4 ?_; clear hk hS a; intro w hS a hk) | (refine wx5 ?_; clear hk hS a; intro w v hS a hk) | fail) | refine wx0 ?_ | (refine s_end hk ?_; clear hk a; intro a hk) | fail))
  · have e : ((i : Int) + j) / 2 = ((i + j) / 2 : Nat) := by omega
    simp only [e, Int.toNat_natCast] at hk
    refine sg hk (g_callvO hk (hf := by kernel_rfl) (hc := where1_any _ x _) (h := ?_)); clear hk a; rintro _ w ⟨rfl, hS1⟩ a hk; replace hS := hS.call0 hS1; clear hS1
    by_cases hc : Lin.lt (eid (es[(i + j) / 2]'(by omega))) x = true
    · rw [show cmpF (eid (es[(i + j) / 2]'(by omega))) x = -1 from cmp_lt hc] at hk
      (repeat' (first | (show wpListIn _ _ _ _ _ (_ :: _) _ _; first | (refine wx1 ?_; clear hk a; intro a hk) | (refine wx2 ?_ ?_ <;> (intro hp; clear hk a; intro a hk)) | (refine wx3 ?_; clear hk hS a; intro w b hS a hk) | (refine wx4 ?_; clear hk hS a; intro w hS a hk) | (refine wx5 ?_; clear hk hS a; intro w v hS a hk) | fail) | refine wx0 ?_ | (refine s_end hk ?_; clear hk a; intro a hk) | fail))
      refine ⟨((i + j) / 2 + 1, j), by simp only; omega, hk.subD (by (repeat (first | exact trivial | refine ⟨rfl, ?_⟩ | refine ⟨trivial, ?_⟩)); fail_if_success focus skip), hS, by simp only; omega, h2, fun k h hk2 => ?_, h4⟩
      simp only at hk2
      by_cases e : k = (i + j) / 2
      · subst e; exact hc
      · exact Lin.tr (hpw k ((i + j) / 2) (by omega) (by omega) (by omega)) hc
    · have hn : ¬ cmpF (eid (es[(i + j) / 2]'(by omega))) x < 0 := cmp_ge (by simpa using hc)
      (repeat' (first | (show wpListIn _ _ _ _ _ (_ :: _) _ _; first | (refine wx1 ?_; clear hk a; intro a hk) | (refine wx2 ?_ ?_ <;> (intro hp; clear hk a; intro a hk)) | (refine wx3 ?_; clear hk hS a; intro w b hS a hk) | (refine wx4 ?_; clear hk hS a; intro w hS a hk) | (refine wx5 ?_; clear hk hS a; intro w v hS a hk) | fail) | refine wx0 ?_ | (refine s_end hk ?_; clear hk a; intro a hk) | fail))
      refine ⟨(i, (i + j) / 2), by simp only; omega, hk.subD (by (repeat (first | exact trivial | refine ⟨rfl, ?_⟩ | refine ⟨trivial, ?_⟩)); fail_if_success focus skip), hS, by simp only; omega, by simp only; omega, h3, fun k h hk2 => ?_⟩
      simp only at hk2
      by_cases e : k = (i + j) / 2
      · subst e; simpa using hc
      · cases hb : Lin.lt (eid es[k]) x with
        | false => rfl
        | true => exact absurd (Lin.tr (hpw ((i + j) / 2) k (by omega) h (by omega)) hb) hc
  · refine sg hk (g_callvO hk (hf := by kernel_rfl) (hc := where1_any _ x _) (h := ?_)); clear hk a; rintro _ w ⟨rfl, hS1⟩ a hk; replace hS := hS.call0 hS1; clear hS1
    have hij : i = j := by omega
    subst hij
    (repeat' (first | (show wpListIn _ _ _ _ _ (_ :: _) _ _; first | (refine wx1 ?_; clear hk a; intro a hk) | (refine wx2 ?_ ?_ <;> (intro hp; clear hk a; intro a hk)) | (refine wx3 ?_; clear hk hS a; intro w b hS a hk) | (refine wx4 ?_; clear hk hS a; intro w hS a hk) | (refine wx5 ?_; clear hk hS a; intro w v hS a hk) | fail) | refine wx0 ?_ | (refine s_end hk ?_; clear hk a; intro a hk) | fail))
    · refine done2 hk (h := ⟨i, _, rfl, ⟨by omega, h3, h4, ?_⟩, hS.nil⟩)
      have hz : cmpF (eid (es[i]'(by omega))) x = 0 := by assumption
      simp only [true_iff]
      exact ⟨by omega, cmp_eq.1 hz⟩
    · refine done2 hk (h := ⟨i, _, rfl, ⟨by omega, h3, h4, ?_⟩, hS.nil⟩)
      have hz : ¬ cmpF (eid (es[i]'(by omega))) x = 0 := by assumption
      constructor
      · intro h; cases h
      · rintro ⟨_, h⟩; exact absurd (cmp_eq.2 h) hz
  · have hij : i = j := by omega
    subst hij
    refine done2 hk (h := ⟨i, _, rfl, ⟨by omega, h3, h4, ?_⟩, hS.nil⟩)
    constructor
    · intro h; cases h
    · rintro ⟨h, _⟩; omega


theorem where_any (s : List Ent) (id : Int) (v : Value) (w0 : World) (hv : SlT s v w0) (hl : s.length ≤ 1000) (hr : Rises eid s) :
    Calls Try.prog 25 #[v, .int .i64 id] w0 (Ret fun v w => ∃ (n : Nat) (f : Bool), v = .tuple #[.int .i64 n, .bool f] ∧ Found eid s id n f ∧ St w0 [] w) := by
  refine enter Try.func25 rfl Try.ntmps25 rfl (fun a hk => ?_); have hS := St.refl w0
  (repeat' (first | (show wpListIn _ _ _ _ _ (_ :: _) _ _; first | (refine wx1 ?_; clear hk a; intro a hk) | (refine wx2 ?_ ?_ <;> (intro hp; clear hk a; intro a hk)) | (refine wx3 ?_; clear hk hS a; intro w b hS a hk) | (refine wx4 ?_; clear hk hS a; intro w hS a hk) | (refine wx5 ?_; clear hk hS a; intro w v hS a hk) | fail) | refine wx0 ?_ | (refine s_end hk ?_; clear hk a; intro a hk) | fail))
  refine sg hk (g_callO hk (hf := by kernel_rfl) (hc := bsR_any s id v _ (hS.rdT hv) hl hr) (h := ?_)); clear hk a; rintro vr w ⟨n, f, rfl, hF, hS1⟩ a hk; replace hS := hS.call hS1; clear hS1
  (repeat' (first | (show wpListIn _ _ _ _ _ (_ :: _) _ _; first | (refine wx1 ?_; clear hk a; intro a hk) | (refine wx2 ?_ ?_ <;> (intro hp; clear hk a; intro a hk)) | (refine wx3 ?_; clear hk hS a; intro w b hS a hk) | (refine wx4 ?_; clear hk hS a; intro w hS a hk) | (refine wx5 ?_; clear hk hS a; intro w v hS a hk) | fail) | refine wx0 ?_ | (refine s_end hk ?_; clear hk a; intro a hk) | fail))
  exact done2 hk (h := ⟨n, f, rfl, hF, hS.nil⟩)

set_option maxHeartbeats 1000000 in
theorem snapOf_any (l : List Ent) (v : Value) (w0 : World) (hv : SlT l v w0) (hl : l.length ≤ 1000) :
    Calls Try.prog 16 #[v] w0 (Ret fun v w => St w0 [OwT 78 (snapF eid l) v] w) := by
  refine enter Try.func16 rfl Try.ntmps16 rfl (fun a hk => ?_); have hS := St.refl w0
  (repeat' (first | (show wpListIn _ _ _ _ _ (_ :: _) _ _; first | (refine wx1 ?_; clear hk a; intro a hk) | (refine wx2 ?_ ?_ <;> (intro hp; clear hk a; intro a hk)) | (refine wx3 ?_; clear hk hS a; intro w b hS a hk) | (refine wx4 ?_; clear hk hS a; intro w hS a hk) | (refine wx5 ?_; clear hk hS a; intro w v hS a hk) | fail) | refine wx0 ?_ | (refine s_end hk ?_; clear hk a; intro a hk) | fail))
  replace hS := hS.nilT 78 Ent
  replace hk := Kn.kp [3, 8, 9, 10] hk
  refine wp_for l.length (fun i v => [(3, v), (10, .int .i64 (i : Int))]) (fun i v => [OwT 78 (snapF eid (l.take i)) v]) (fun _ _ => True) (.slice none 0 0) hk (by repeat (first | exact trivial | refine ⟨rfl, ?_⟩)) hS.sb trivial ?_
  clear hk hS a
  rintro i vo a w hi hk hS -
  by_cases hil : i < l.length
  · obtain ⟨⟨id, X, Y, W, H⟩, hx⟩ : ∃ x, l[i]? = some x := ⟨_, List.getElem?_eq_getElem hil⟩
    have hsn : snapF eid (l.take (i + 1)) = putF eid (snapF eid (l.take i)) (id, X, Y, W, H) := by rw [take_snoc hx, snap_snoc]
    have hsl : (snapF eid (l.take i)).length ≤ i := Nat.le_trans (snap_len eid _) (by rw [List.length_take]; omega)
    have hsr := snap_rises eid (l.take i)
    generalize snapF eid (l.take i) = S at *
    (repeat' (first | (show wpListIn _ _ _ _ _ (_ :: _) _ _; first | (refine wx1 ?_; clear hk a; intro a hk) | (refine wx2 ?_ ?_ <;> (intro hp; clear hk a; intro a hk)) | (refine wx3 ?_; clear hk hS a; intro w b hS a hk) | (refine wx4 ?_; clear hk hS a; intro w hS a hk) | (refine wx5 ?_; clear hk hS a; intro w v hS a hk) | fail) | refine wx0 ?_ | (refine s_end hk ?_; clear hk a; intro a hk) | fail))
    refine sg hk (g_callO hk (hf := by kernel_rfl) (hc := where_any S id vo _ (by first | exact St.rdT hS (by assumption) | exact OwT.rd (hS.rd (A := OwT _ _ _) (by (repeat (first | exact At.here | apply At.there)))) | assumption) (by omega) hsr) (h := ?_)); clear hk a; rintro vr w ⟨n, f, rfl, hF, hS1⟩ a hk; replace hS := hS.call hS1; clear hS1
    cases f with
    | true =>
      obtain ⟨hn, hset⟩ := found_set eid (e := (id, X, Y, W, H)) hF
      (repeat' (first | (show wpListIn _ _ _ _ _ (_ :: _) _ _; first | (refine wx1 ?_; clear hk a; intro a hk) | (refine wx2 ?_ ?_ <;> (intro hp; clear hk a; intro a hk)) | (refine wx3 ?_; clear hk hS a; intro w b hS a hk) | (refine wx4 ?_; clear hk hS a; intro w hS a hk) | (refine wx5 ?_; clear hk hS a; intro w v hS a hk) | fail) | refine wx0 ?_ | (refine s_end hk ?_; clear hk a; intro a hk) | fail))
      refine su hk (g_stT (xs := S) (z := (id, X, Y, W, H)) hk hS ?_ (hsz := zT rfl) (hi := hn))
      clear hk hS a
      intro w hS a hk
      rw [hset, ← hsn] at hS
      (repeat' (first | (show wpListIn _ _ _ _ _ (_ :: _) _ _; first | (refine wx1 ?_; clear hk a; intro a hk) | (refine wx2 ?_ ?_ <;> (intro hp; clear hk a; intro a hk)) | (refine wx3 ?_; clear hk hS a; intro w b hS a hk) | (refine wx4 ?_; clear hk hS a; intro w hS a hk) | (refine wx5 ?_; clear hk hS a; intro w v hS a hk) | fail) | refine wx0 ?_ | (refine s_end hk ?_; clear hk a; intro a hk) | fail))
      exact ⟨hil, _, hk.sd, hS.sb, trivial⟩
    | false =>
      obtain ⟨hn, hset⟩ := found_ins eid (e := (id, X, Y, W, H)) hF
      (repeat' (first | (show wpListIn _ _ _ _ _ (_ :: _) _ _; first | (refine wx1 ?_; clear hk a; intro a hk) | (refine wx2 ?_ ?_ <;> (intro hp; clear hk a; intro a hk)) | (refine wx3 ?_; clear hk hS a; intro w b hS a hk) | (refine wx4 ?_; clear hk hS a; intro w hS a hk) | (refine wx5 ?_; clear hk hS a; intro w v hS a hk) | fail) | refine wx0 ?_ | (refine s_end hk ?_; clear hk a; intro a hk) | fail))
      refine sg hk (g_bsT (xs := [((id, X, Y, W, H) : Ent)]) (m := 0) hk hS ?_ (hT := eT rfl) (hE := zT rfl) (hz := oT rfl)); clear hk hS a; intro w ve hS a hk
      (repeat' (first | (show wpListIn _ _ _ _ _ (_ :: _) _ _; first | (refine wx1 ?_; clear hk a; intro a hk) | (refine wx2 ?_ ?_ <;> (intro hp; clear hk a; intro a hk)) | (refine wx3 ?_; clear hk hS a; intro w b hS a hk) | (refine wx4 ?_; clear hk hS a; intro w hS a hk) | (refine wx5 ?_; clear hk hS a; intro w v hS a hk) | fail) | refine wx0 ?_ | (refine s_end hk ?_; clear hk a; intro a hk) | fail))
      refine sg hk (g_callO hk (hf := by kernel_rfl) (hc := insR_any (L := []) (xs := S) (e := (id, X, Y, W, H)) (v := vo) (ve := ve) (hS.sub (by (repeat (first | exact Sub.nil | exact Sub.refl | refine Sub.cons (by (repeat (first | exact At.here | apply At.there))) ?_)))) hn (by omega)) (h := ?_)); clear hk hS a; intro vr w hS a hk
      rw [show insF S n _ = _ from hset, ← hsn] at hS
      (repeat' (first | (show wpListIn _ _ _ _ _ (_ :: _) _ _; first | (refine wx1 ?_; clear hk a; intro a hk) | (refine wx2 ?_ ?_ <;> (intro hp; clear hk a; intro a hk)) | (refine wx3 ?_; clear hk hS a; intro w b hS a hk) | (refine wx4 ?_; clear hk hS a; intro w hS a hk) | (refine wx5 ?_; clear hk hS a; intro w v hS a hk) | fail) | refine wx0 ?_ | (refine s_end hk ?_; clear hk a; intro a hk) | fail))
      exact ⟨hil, _, hk.sd, hS.sb, trivial⟩
  · have : i = l.length := by omega
    subst this
    rw [List.take_length] at hS
    (repeat' (first | (show wpListIn _ _ _ _ _ (_ :: _) _ _; first | (refine wx1 ?_; clear hk a; intro a hk) | (refine wx2 ?_ ?_ <;> (intro hp; clear hk a; intro a hk)) | (refine wx3 ?_; clear hk hS a; intro w b hS a hk) | (refine wx4 ?_; clear hk hS a; intro w hS a hk) | (refine wx5 ?_; clear hk hS a; intro w v hS a hk) | fail) | refine wx0 ?_ | (refine s_end hk ?_; clear hk a; intro a hk) | fail))
    exact done1 hk (h := hS.sb)

def getR (l : List Ent) (id : Int) : Int × Int × Int × Int := ((lastF eid l id).getD (0, 0, 0, 0, 0)).2
theorem get_any (l : List Ent) (id : Int) (v : Value) (w0 : World) (hv : SlT l v w0) (hl : l.length ≤ 1000) :
    Calls Try.prog 18 #[v, .int .i64 id] w0 (Ret fun v w => v = .tuple #[.agg (Enc.f (getR l id)).toArray, .bool (lastF eid l id).isSome] ∧ St w0 [] w) := by
  have hsl := snap_len eid l
  have hsr := snap_rises eid l
  unfold getR
  rw [← snap_last_eq eid l id]
  refine enter Try.func18 rfl Try.ntmps18 rfl (fun a hk => ?_); have hS := St.refl w0
  (repeat' (first | (show wpListIn _ _ _ _ _ (_ :: _) _ _; first | (refine wx1 ?_; clear hk a; intro a hk) | (refine wx2 ?_ ?_ <;> (intro hp; clear hk a; intro a hk)) | (refine wx3 ?_; clear hk hS a; intro w b hS a hk) | (refine wx4 ?_; clear hk hS a; intro w hS a hk) | (refine wx5 ?_; clear hk hS a; intro w v hS a hk) | fail) | refine wx0 ?_ | (refine s_end hk ?_; clear hk a; intro a hk) | fail))
  refine sg hk (g_callO hk (hf := by kernel_rfl) (hc := snapOf_any l v _ (hS.rdT hv) hl) (h := ?_)); clear hk a; rintro vs w hS1 a hk; replace hS := hS.call hS1; clear hS1
  generalize snapF eid l = S at *
  (repeat' (first | (show wpListIn _ _ _ _ _ (_ :: _) _ _; first | (refine wx1 ?_; clear hk a; intro a hk) | (refine wx2 ?_ ?_ <;> (intro hp; clear hk a; intro a hk)) | (refine wx3 ?_; clear hk hS a; intro w b hS a hk) | (refine wx4 ?_; clear hk hS a; intro w hS a hk) | (refine wx5 ?_; clear hk hS a; intro w v hS a hk) | fail) | refine wx0 ?_ | (refine s_end hk ?_; clear hk a; intro a hk) | fail))
  refine sg hk (g_callO hk (hf := by kernel_rfl) (hc := where_any S id vs _ (by first | exact St.rdT hS (by assumption) | exact OwT.rd (hS.rd (A := OwT _ _ _) (by (repeat (first | exact At.here | apply At.there)))) | assumption) (by omega) hsr) (h := ?_)); clear hk a; rintro vr w ⟨n, f, rfl, hF, hS1⟩ a hk; replace hS := hS.call hS1; clear hS1
  have hlast := found_last eid hsr hF
  cases f with
  | true =>
    obtain ⟨hn, _⟩ := hF.2.2.2.1 rfl
    rw [if_pos rfl, List.getElem?_eq_getElem hn] at hlast
    rw [hlast]
    (repeat' (first | (show wpListIn _ _ _ _ _ (_ :: _) _ _; first | (refine wx1 ?_; clear hk a; intro a hk) | (refine wx2 ?_ ?_ <;> (intro hp; clear hk a; intro a hk)) | (refine wx3 ?_; clear hk hS a; intro w b hS a hk) | (refine wx4 ?_; clear hk hS a; intro w hS a hk) | (refine wx5 ?_; clear hk hS a; intro w v hS a hk) | fail) | refine wx0 ?_ | (refine s_end hk ?_; clear hk a; intro a hk) | fail))
    exact done2R hk rfl (.str hS (hT := aT rfl) (hs := zT rfl)) (.tmp rfl) (h := ⟨rfl, hS.nil⟩)
  | false =>
    rw [if_neg (by decide)] at hlast
    rw [hlast]
    (repeat' (first | (show wpListIn _ _ _ _ _ (_ :: _) _ _; first | (refine wx1 ?_; clear hk a; intro a hk) | (refine wx2 ?_ ?_ <;> (intro hp; clear hk a; intro a hk)) | (refine wx3 ?_; clear hk hS a; intro w b hS a hk) | (refine wx4 ?_; clear hk hS a; intro w hS a hk) | (refine wx5 ?_; clear hk hS a; intro w v hS a hk) | fail) | refine wx0 ?_ | (refine s_end hk ?_; clear hk a; intro a hk) | fail))
    exact done2R hk rfl (.str hS (hT := aT rfl) (hs := zT rfl)) (.tmp rfl) (h := ⟨rfl, hS.nil⟩)

end Go.Proofs.Ytcahaaapmaahnaa
namespace Go.Proofs.Ytcahaaapmaahnaa
open Go.RowKit
set_option maxRecDepth 100000
attribute [local irreducible] Go.Code.wpIn Go.wpListIn Go.Calls Gives Go.Exit.then Go.Exit.inBlock Done ObxE

theorem St.low0 {g w0 w : World} {L : List HP} (h : St ⟨g, w0⟩ L w) : St w0 L w :=
  ⟨h.below, Frz.of_below h.below, let ⟨F, hF, hs⟩ := h.own; ⟨F, fun b hb => ⟨⟨(hF b hb).1.1, fun hl => by have := hl.lt; have := (hF b hb).1.1; simp only at *; omega⟩, (hF b hb).2⟩, hs⟩⟩
def wayL {σ : Type} (S : σ → HP) (way : List Int) (vw : Value) (r : Bool × σ) : List HP := if r.1 = true then [OwT 3 way vw, S r.2] else [S r.2]
set_option maxHeartbeats 4000000 in
theorem hears33 {σ : Type} (S : σ → HP) (p : σ → (STree × List Int) → Bool × σ) (f : FuncId) (cap : List Value) (hf : callable Try.prog f = true) (B : Bs)
    (hy : ∀ (s : σ) (x : STree) (way : List Int) (h : SnH) (vw : Value) (L : List HP) (w : World), St B (OwT 3 way vw :: S s :: L) w → SrR B.g x h → Calls Try.prog f (snV h :: vw :: cap).toArray w (Ret fun v w' => v = .bool (p s (x, way)).1 ∧ St B (wayL S way vw (p s (x, way)) ++ L) w')) :
    ∀ (n : Nat) (t : STree) (h : SnH) (way : List Int) (vw : Value) (s : σ) (L : List HP) (w : World), SizeOf.sizeOf t < n → way.length + n ≤ 900 → PlT t → SrR B.g t h → St B (OwT 3 way vw :: S s :: L) w →
      Calls Try.prog 14 #[snV h, vw, .func (.func f) #[] cap.toArray] w (Ret fun v w' => v = .bool (runQ p s (hrT way t)).1 ∧ St B (wayL S way vw (runQ p s (hrT way t)) ++ L) w')
  | 0, _, _, _, _, _, _, _, hn, _, _, _, _ => by omega
  | n + 1, t, h, way, vw, s, L, w, hn, hw, hpl, hr, hS => by
    have ih := hears33 S p f cap hf B hy n
    have hr0 := hr
    have hpl0 := hpl
    obtain ⟨id, k, tag, text, cl, al, sl, kids, a1, m1, a2, m2, a3, m3, a4, m4, H, rfl, rfl, c1, c2, c3, c4, hF⟩ := hr.split
    have hkp : kids.length ≤ 1000 ∧ ∀ t ∈ kids, PlT t := by
      cases hpl with
      | mk h1 h2 h3 => exact ⟨h1, h3⟩
    have hHk : H.length = kids.length := hF.1
    rw [hrT]
    generalize hTT : STree.mk id k tag text cl al sl kids = T at *
    obtain ⟨aw, cw, rfl, _⟩ := (OwT.rd (hS.rd (A := OwT 3 way vw) .here)).shape
    show Calls Try.prog 14 #[.agg #[.int .i64 id, .int .i64 k, .string tag, .string text, .slice a1 cl.length m1, .slice a2 al.length m2, .slice a3 sl.length m3, .slice a4 H.length m4], .slice aw way.length cw, .func (.func f) #[] cap.toArray] w _
    refine enter Try.func14 rfl Try.ntmps14 rfl (fun a hk => ?_)
    refine wpIn_seq ?_; refine wpIn_region_lit ?_
    refine st_box hk hS ?_; clear hk hS a; intro w b3 hS a hk
    (repeat' (first | (show wpListIn _ _ _ _ _ (_ :: _) _ _; first | (refine wx1 ?_; clear hk a; intro a hk) | (refine wx2 ?_ ?_ <;> (intro hp; clear hk a; intro a hk)) | (refine wx3 ?_; clear hk hS a; intro w b hS a hk) | (refine wx4 ?_; clear hk hS a; intro w hS a hk) | (refine wx5 ?_; clear hk hS a; intro w v hS a hk) | fail) | refine wx0 ?_ | (refine s_end hk ?_; clear hk a; intro a hk) | fail))
    refine sg hk (g_callO hk (hf := by kernel_rfl) (hc := deaf33 T (id, k, tag, text, ⟨a1, cl.length, m1⟩, ⟨a2, al.length, m2⟩, ⟨a3, sl.length, m3⟩, ⟨a4, H.length, m4⟩) _ hpl0 (hr0.frz hS.frz)) (h := ?_)); clear hk a; rintro _ w ⟨rfl, hS1⟩ a hk; replace hS := hS.call0 hS1; clear hS1
    (repeat' (first | (show wpListIn _ _ _ _ _ (_ :: _) _ _; first | (refine wx1 ?_; clear hk a; intro a hk) | (refine wx2 ?_ ?_ <;> (intro hp; clear hk a; intro a hk)) | (refine wx3 ?_; clear hk hS a; intro w b hS a hk) | (refine wx4 ?_; clear hk hS a; intro w hS a hk) | (refine wx5 ?_; clear hk hS a; intro w v hS a hk) | fail) | refine wx0 ?_ | (refine s_end hk ?_; clear hk a; intro a hk) | fail))
    refine wp_drawn 5 mixed (by kernel_rfl) hk hS ?_; clear hk hS a
    (repeat' (first | (show ObxE _ _ _ _ _ _ _ _ _ (_ :: _) _ _ _; first | refine ox1 ?_ | (refine ox2 ?_ ?_ <;> intro hp) | fail) | fail))
    refine' obe_res (fun us a w hk hd hS => ?_) ?_; rotate_left; focus (have hk := Kn.vw hk (by repeat (first | exact VW.nil | apply VW.val rfl | apply VW.base rfl rfl | apply VW.res rfl | apply VW.upd rfl | apply VW.cpy rfl | apply VW.dep rfl | apply VW.fn rfl | apply VW.lnd rfl | apply VW.tak rfl)); exact g_callO hk (hf := by kernel_rfl) (hc := cloneI33 way _ _ (OwT.rd (hS.rd (A := OwT 3 way (.slice aw way.length cw)) (by (repeat (first | exact At.here | apply At.there))))) (by omega)) (h := fun _ _ h => h))
    (repeat' (first | (show ObxE _ _ _ _ _ _ _ _ _ (_ :: _) _ _ _; first | refine ox1 ?_ | (refine ox2 ?_ ?_ <;> intro hp) | fail) | fail))
    refine' obe_res (fun us a w hk hd hS => ?_) ?_; rotate_left; focus (have hk := Kn.vw hk (by repeat (first | exact VW.nil | apply VW.val rfl | apply VW.base rfl rfl | apply VW.res rfl | apply VW.upd rfl | apply VW.cpy rfl | apply VW.dep rfl | apply VW.fn rfl | apply VW.lnd rfl | apply VW.tak rfl)); exact v_bsT (xs := [(id : Int)]) (m := 0) hk (hT := eT rfl) (hE := zT rfl) (hz := oT rfl))
    refine obe_nil ⟨rfl, ?_⟩; intro us a w hk hS
    simp only [resE, List.cons_append, List.nil_append, Nat.zero_add, Nat.reduceAdd] at hS
    (repeat' (first | (show wpListIn _ _ _ _ _ (_ :: _) _ _; first | (refine wx1 ?_; clear hk a; intro a hk) | (refine wx2 ?_ ?_ <;> (intro hp; clear hk a; intro a hk)) | (refine wx3 ?_; clear hk hS a; intro w b hS a hk) | (refine wx4 ?_; clear hk hS a; intro w hS a hk) | (refine wx5 ?_; clear hk hS a; intro w v hS a hk) | fail) | refine wx0 ?_ | (refine s_end hk ?_; clear hk a; intro a hk) | fail))
    rename Value => v16
    generalize hw2 : way ++ [id] = way2 at *
    have hwl : way2.length = way.length + 1 := by rw [← hw2, List.length_append]; rfl
    obtain ⟨aw2, cw2, rfl, _⟩ := (OwT.rd (hS.rd (A := OwT 3 way2 v16) (by (repeat (first | exact At.here | apply At.there))))).shape
    replace hS := hS.sub (L' := OwT 3 way2 (.slice aw2 way2.length cw2) :: S s :: pts b3 [.int .i64 id, .int .i64 k, .string tag, .string text, .slice a1 cl.length m1, .slice a2 al.length m2, .slice a3 sl.length m3, .slice a4 H.length m4] 37 :: OwT 3 way (.slice aw way.length cw) :: L) (.cons (by repeat (first | exact At.here | apply At.there)) (.cons (by repeat (first | exact At.here | apply At.there)) (.cons (by repeat (first | exact At.here | apply At.there)) (.cons (by repeat (first | exact At.here | apply At.there)) (by repeat (first | exact Sub.refl | apply Sub.under))))))
    refine sg hk (g_callvO (first := []) (cap := cap) hk (hf := hf) (hc := hy s T way2 (id, k, tag, text, ⟨a1, cl.length, m1⟩, ⟨a2, al.length, m2⟩, ⟨a3, sl.length, m3⟩, ⟨a4, H.length, m4⟩) (.slice aw2 way2.length cw2) _ _ hS hr0) (h := ?_)); clear hk hS a; rintro _ w ⟨rfl, hS⟩ a hk
    rw [runQ]
    generalize hps : p s (T, way2) = ps at *
    obtain ⟨pb, s1⟩ := ps
    unfold wayL at hS
    simp only at hS hk ⊢
    cases pb with
    | false =>
      rw [if_neg (by simp), List.cons_append, List.nil_append] at hS
      rw [if_neg (by simp)]
      (repeat' (first | (show wpListIn _ _ _ _ _ (_ :: _) _ _; first | (refine wx1 ?_; clear hk a; intro a hk) | (refine wx2 ?_ ?_ <;> (intro hp; clear hk a; intro a hk)) | (refine wx3 ?_; clear hk hS a; intro w b hS a hk) | (refine wx4 ?_; clear hk hS a; intro w hS a hk) | (refine wx5 ?_; clear hk hS a; intro w v hS a hk) | fail) | refine wx0 ?_ | (refine s_end hk ?_; clear hk a; intro a hk) | fail))
      refine done1 hk (h := ⟨rfl, ?_⟩)
      unfold wayL
      rw [if_neg (by simp)]
      exact hS.sub (.cons .here (Sub.under (Sub.under .refl)))
    | true =>
      rw [if_pos rfl, List.cons_append, List.cons_append, List.nil_append] at hS
      rw [if_pos rfl]
      have c4' := c4.frz hS.frz
      (repeat' (first | (show wpListIn _ _ _ _ _ (_ :: _) _ _; first | (refine wx1 ?_; clear hk a; intro a hk) | (refine wx2 ?_ ?_ <;> (intro hp; clear hk a; intro a hk)) | (refine wx3 ?_; clear hk hS a; intro w b hS a hk) | (refine wx4 ?_; clear hk hS a; intro w hS a hk) | (refine wx5 ?_; clear hk hS a; intro w v hS a hk) | fail) | refine wx0 ?_ | (refine s_end hk ?_; clear hk a; intro a hk) | fail))
      replace hk := Kn.kp [1, 2, 23, 24, 25] hk
      refine wp_for H.length (fun i _ => [(25, .int .i64 (i : Int))]) (fun i _ => OwT 3 way2 (.slice aw2 way2.length cw2) :: S (runQ p s1 (hrL way2 (kids.take i))).2 :: OwT 3 way (.slice aw way.length cw) :: L) (fun i _ => (runQ p s1 (hrL way2 (kids.take i))).1 = true) () hk (by repeat (first | exact trivial | refine ⟨rfl, ?_⟩)) (hS.sub (.cons .here (.cons .here (Sub.under .refl)))) rfl ?_
      clear hk hS a c4'
      rintro i - a w hi hk hS hA
      have c4' := c4.frz hS.frz
      by_cases hil : i < H.length
      · obtain ⟨tk, htk⟩ : ∃ t, kids[i]? = some t := ⟨_, List.getElem?_eq_getElem (by omega)⟩
        obtain ⟨hd0, hx⟩ : ∃ x, H[i]? = some x := ⟨_, List.getElem?_eq_getElem hil⟩
        have hTr := hF.2 i tk hd0 htk hx
        have hmk := List.mem_of_getElem? htk
        have hlt : SizeOf.sizeOf tk < n := by
          have := skid_lt (id := id) (k := k) (tag := tag) (text := text) (cl := cl) (at_ := al) (st := sl) hmk
          rw [hTT] at this
          omega
        have hst : runQ p s1 (hrL way2 (kids.take (i + 1))) = runQ p (runQ p s1 (hrL way2 (kids.take i))).2 (hrT way2 tk) := by rw [take_snoc htk, hrL_snoc, runQ_app, if_pos hA]
        obtain ⟨id', k', tag', text', ⟨x1, x2, x3⟩, ⟨y1, y2, y3⟩, ⟨z1, z2, z3⟩, ⟨u1, u2, u3⟩⟩ := hd0
        (repeat' (first | (show wpListIn _ _ _ _ _ (_ :: _) _ _; first | (refine wx1 ?_; clear hk a; intro a hk) | (refine wx2 ?_ ?_ <;> (intro hp; clear hk a; intro a hk)) | (refine wx3 ?_; clear hk hS a; intro w b hS a hk) | (refine wx4 ?_; clear hk hS a; intro w hS a hk) | (refine wx5 ?_; clear hk hS a; intro w v hS a hk) | fail) | refine wx0 ?_ | (refine s_end hk ?_; clear hk a; intro a hk) | fail))
        replace hS := hS.sub (L' := OwT 3 way2 (.slice aw2 way2.length cw2) :: S (runQ p s1 (hrL way2 (kids.take i))).2 :: OwT 3 way (.slice aw way.length cw) :: L) (.cons (.there .here) (.cons (.there .here) (Sub.under .refl)))
        refine sg hk (g_callO hk (hf := by kernel_rfl) (hc := ih tk (id', k', tag', text', ⟨x1, x2, x3⟩, ⟨y1, y2, y3⟩, ⟨z1, z2, z3⟩, ⟨u1, u2, u3⟩) way2 _ _ _ _ hlt (by omega) (hkp.2 tk hmk) hTr hS) (h := ?_)); clear hk hS a; rintro _ w ⟨rfl, hS⟩ a hk
        rw [← hst] at hS hk
        unfold wayL at hS
        by_cases hb : (runQ p s1 (hrL way2 (kids.take (i + 1)))).1 = true
        · rw [if_pos hb, List.cons_append, List.cons_append, List.nil_append] at hS
          rw [hb] at hk
          (repeat' (first | (show wpListIn _ _ _ _ _ (_ :: _) _ _; first | (refine wx1 ?_; clear hk a; intro a hk) | (refine wx2 ?_ ?_ <;> (intro hp; clear hk a; intro a hk)) | (refine wx3 ?_; clear hk hS a; intro w b hS a hk) | (refine wx4 ?_; clear hk hS a; intro w hS a hk) | (refine wx5 ?_; clear hk hS a; intro w v hS a hk) | fail) | refine wx0 ?_ | (refine s_end hk ?_; clear hk a; intro a hk) | fail))
          exact ⟨hil, (), hk.sd, hS, hb⟩
        · have hbf : (runQ p s1 (hrL way2 (kids.take (i + 1)))).1 = false := by simpa using hb
          rw [if_neg hb, List.cons_append, List.nil_append] at hS
          rw [hbf] at hk
          (repeat' (first | (show wpListIn _ _ _ _ _ (_ :: _) _ _; first | (refine wx1 ?_; clear hk a; intro a hk) | (refine wx2 ?_ ?_ <;> (intro hp; clear hk a; intro a hk)) | (refine wx3 ?_; clear hk hS a; intro w b hS a hk) | (refine wx4 ?_; clear hk hS a; intro w hS a hk) | (refine wx5 ?_; clear hk hS a; intro w v hS a hk) | fail) | refine wx0 ?_ | (refine s_end hk ?_; clear hk a; intro a hk) | fail))
          have hall : runQ p s1 (hrL way2 kids) = (false, (runQ p s1 (hrL way2 (kids.take (i + 1)))).2) := by
            conv => lhs; rw [← List.take_append_drop (i + 1) kids]
            rw [hrL_app, runQ_app, if_neg hb]
          rw [hall]
          refine done1 hk (h := ⟨rfl, ?_⟩)
          unfold wayL
          rw [if_neg (by simp)]
          exact hS.sub (.cons .here (Sub.under .refl))
      · have hii : i = kids.length := by omega
        subst hii
        rw [List.take_length] at hS hA
        (repeat' (first | (show wpListIn _ _ _ _ _ (_ :: _) _ _; first | (refine wx1 ?_; clear hk a; intro a hk) | (refine wx2 ?_ ?_ <;> (intro hp; clear hk a; intro a hk)) | (refine wx3 ?_; clear hk hS a; intro w b hS a hk) | (refine wx4 ?_; clear hk hS a; intro w hS a hk) | (refine wx5 ?_; clear hk hS a; intro w v hS a hk) | fail) | refine wx0 ?_ | (refine s_end hk ?_; clear hk a; intro a hk) | fail))
        refine done1 hk (h := ⟨by rw [hA], ?_⟩)
        unfold wayL
        rw [if_pos hA]
        exact hS.sub (.cons (.there (.there .here)) (.cons (.there .here) (Sub.under .refl)))

def pthH (bi bo : Nat) (id : Int) (out : List Int) : HP := bagH (fun hd : Hd => [pts bi [.int .i64 id] 3, pts bo [hd.v] 24, OwT 3 out hd.v]) (fun _ => True)
def pthP (id : Int) (out : List Int) (x : STree × List Int) : Bool × List Int := (!decide (x.1.id = id), if x.1.id = id then x.2 else out)
theorem pathY33 (bi bo : Nat) (id : Int) (B : Bs) (s : List Int) (x : STree) (way : List Int) (h : SnH) (vw : Value) (L : List HP) (w : World) (hS : St B (OwT 3 way vw :: pthH bi bo id s :: L) w) (hr : SrR B.g x h) :
    Calls Try.prog 15 #[snV h, vw, .pointer (some ⟨bi, 0, none⟩), .pointer (some ⟨bo, 0, none⟩)] w (Ret fun v w' => v = .bool (pthP id s (x, way)).1 ∧ St B (wayL (pthH bi bo id) way vw (pthP id s (x, way)) ++ L) w') := by
  obtain ⟨id', k, tag, text, cl, al, sl, kids, a1, m1, a2, m2, a3, m3, a4, m4, H, rfl, rfl, -⟩ := hr.split
  generalize hT : STree.mk id' k tag text cl al sl kids = T at *
  have hid : T.id = id' := by rw [← hT]; rfl
  obtain ⟨aw, cw, rfl, _⟩ := (OwT.rd (hS.rd (A := OwT 3 way vw) .here)).shape
  obtain ⟨⟨x1, x2, x3⟩, -, hS1⟩ := St.bag hS (.there .here)
  clear hS
  have hS := hS1
  clear hS1
  rw [List.cons_append, List.cons_append, List.cons_append, List.nil_append] at hS
  replace hS : St B (pts bi [.int .i64 id] 3 :: pts bo [.slice x1 x2 x3] 24 :: OwT 3 s (.slice x1 x2 x3) :: OwT 3 way (.slice aw way.length cw) :: L) w := hS
  show Calls Try.prog 15 #[.agg #[.int .i64 id', .int .i64 k, .string tag, .string text, .slice a1 cl.length m1, .slice a2 al.length m2, .slice a3 sl.length m3, .slice a4 H.length m4], .slice aw way.length cw, .pointer (some ⟨bi, 0, none⟩), .pointer (some ⟨bo, 0, none⟩)] w _
  by_cases he : id' = id
  · have e1 : pthP id s (T, way) = (false, way) := by simp [pthP, hid, he]
    rw [e1]
    refine enter Try.func15 rfl Try.ntmps15 rfl (fun a hk => ?_)
    (repeat' (first | (show wpListIn _ _ _ _ _ (_ :: _) _ _; first | (refine wx1 ?_; clear hk a; intro a hk) | (refine wx2 ?_ ?_ <;> (intro hp; clear hk a; intro a hk)) | (refine wx3 ?_; clear hk hS a; intro w b hS a hk) | (refine wx4 ?_; clear hk hS a; intro w hS a hk) | (refine wx5 ?_; clear hk hS a; intro w v hS a hk) | fail) | refine wx0 ?_ | (refine s_end hk ?_; clear hk a; intro a hk) | fail))
    refine done1 hk (h := ⟨rfl, ?_⟩)
    unfold wayL
    rw [if_neg (by simp)]
    exact bagH.of (A := fun hd : Hd => [pts bi [.int .i64 id] 3, pts bo [hd.v] 24, OwT 3 way hd.v]) (x := ⟨aw, way.length, cw⟩) (hS.sub (.cons (by repeat (first | exact At.here | apply At.there)) (.cons (by repeat (first | exact At.here | apply At.there)) (.cons (by repeat (first | exact At.here | apply At.there)) (by repeat (first | exact Sub.refl | apply Sub.under)))))) trivial
  · have e1 : pthP id s (T, way) = (true, s) := by simp [pthP, hid, he]
    rw [e1]
    refine enter Try.func15 rfl Try.ntmps15 rfl (fun a hk => ?_)
    (repeat' (first | (show wpListIn _ _ _ _ _ (_ :: _) _ _; first | (refine wx1 ?_; clear hk a; intro a hk) | (refine wx2 ?_ ?_ <;> (intro hp; clear hk a; intro a hk)) | (refine wx3 ?_; clear hk hS a; intro w b hS a hk) | (refine wx4 ?_; clear hk hS a; intro w hS a hk) | (refine wx5 ?_; clear hk hS a; intro w v hS a hk) | fail) | refine wx0 ?_ | (refine s_end hk ?_; clear hk a; intro a hk) | fail))
    refine done1 hk (h := ⟨rfl, ?_⟩)
    unfold wayL
    rw [if_pos rfl]
    exact St.sub (bagH.of (A := fun hd : Hd => [pts bi [.int .i64 id] 3, pts bo [hd.v] 24, OwT 3 s hd.v]) (p := fun _ => True) (x := ⟨x1, x2, x3⟩) (L := OwT 3 way (.slice aw way.length cw) :: L) (hS.sub (.cons (by repeat (first | exact At.here | apply At.there)) (.cons (by repeat (first | exact At.here | apply At.there)) (.cons (by repeat (first | exact At.here | apply At.there)) (.cons (by repeat (first | exact At.here | apply At.there)) (by repeat (first | exact Sub.refl | apply Sub.under))))))) trivial) (.cons (.there .here) (.cons .here .refl))
def pathF (t : STree) (id : Int) : List Int := (runQ (pthP id) [] (hrT [] t)).2
set_option maxHeartbeats 4000000 in
theorem path33 (g : World) (t : STree) (h : SnH) (id : Int) (w0 : World) (hpl : PlT t) (hsz : SizeOf.sizeOf t < 800) (hg : Frz g w0) (hr : SrR g t h) :
    Calls Try.prog 8 #[snV h, .int .i64 id] w0 (Ret fun v w => St w0 [OwT 3 (pathF t id) v] w) := by
  have hS : St ⟨g, w0⟩ [] w0 := St.reflG hg
  have hr0 := hr
  obtain ⟨id', k, tag, text, cl, al, sl, kids, a1, m1, a2, m2, a3, m3, a4, m4, H, rfl, rfl, -⟩ := hr.split
  generalize hT : STree.mk id' k tag text cl al sl kids = T at *
  show Calls Try.prog 8 #[.agg #[.int .i64 id', .int .i64 k, .string tag, .string text, .slice a1 cl.length m1, .slice a2 al.length m2, .slice a3 sl.length m3, .slice a4 H.length m4], .int .i64 id] w0 _
  refine enter Try.func8 rfl Try.ntmps8 rfl (fun a hk => ?_)
  refine wpIn_seq ?_; refine wpIn_region_lit ?_
  refine st_box hk hS ?_; clear hk hS a; intro w b2 hS a hk
  refine st_box hk hS ?_; clear hk hS a; intro w b3 hS a hk
  (repeat' (first | (show wpListIn _ _ _ _ _ (_ :: _) _ _; first | (refine wx1 ?_; clear hk a; intro a hk) | (refine wx2 ?_ ?_ <;> (intro hp; clear hk a; intro a hk)) | (refine wx3 ?_; clear hk hS a; intro w b hS a hk) | (refine wx4 ?_; clear hk hS a; intro w hS a hk) | (refine wx5 ?_; clear hk hS a; intro w v hS a hk) | fail) | refine wx0 ?_ | (refine s_end hk ?_; clear hk a; intro a hk) | fail))
  rename Nat => b5
  replace hS := hS.nilT 3 Int
  replace hS := St.sub (bagH.of (A := fun hd : Hd => [pts b3 [.int .i64 id] 3, pts b5 [hd.v] 24, OwT 3 ([] : List Int) hd.v]) (p := fun _ => True) (x := ⟨none, 0, 0⟩) (L := []) (hS.sub (by (repeat (first | exact Sub.nil | exact Sub.refl | refine Sub.cons (by (repeat (first | exact At.here | apply At.there))) ?_)))) trivial) .refl
  replace hS := hS.nilT 3 Int
  replace hS : St ⟨g, w0⟩ (OwT 3 ([] : List Int) (.slice none 0 0) :: pthH b3 b5 id [] :: []) w := hS.sub (by (repeat (first | exact Sub.nil | exact Sub.refl | refine Sub.cons (by (repeat (first | exact At.here | apply At.there))) ?_)))
  refine sg hk (g_callO hk (hf := by kernel_rfl) (hc := hears33 (pthH b3 b5 id) (pthP id) 15 [.pointer (some ⟨b3, 0, none⟩), .pointer (some ⟨b5, 0, none⟩)] (by kernel_rfl) ⟨g, w0⟩ (fun s x way h vw L w hS hr => pathY33 b3 b5 id ⟨g, w0⟩ s x way h vw L w hS hr) (SizeOf.sizeOf T + 1) T (id', k, tag, text, ⟨a1, cl.length, m1⟩, ⟨a2, al.length, m2⟩, ⟨a3, sl.length, m3⟩, ⟨a4, H.length, m4⟩) [] (.slice none 0 0) [] _ _ (by omega) (by simp only [List.length_nil]; omega) hpl hr0 hS) (h := ?_)); clear hk hS a; rintro _ w ⟨rfl, hS⟩ a hk
  have hS1 : St ⟨g, w0⟩ [pthH b3 b5 id (pathF T id)] w := by
    unfold wayL at hS
    split at hS
    · exact hS.sub (.cons (.there .here) .nil)
    · exact hS.sub (.cons .here .nil)
  clear hS
  have hS := hS1
  clear hS1
  obtain ⟨⟨x1, x2, x3⟩, -, hS1⟩ := St.bag hS .here
  clear hS
  have hS := hS1
  clear hS1
  rw [List.cons_append, List.cons_append, List.cons_append, List.nil_append] at hS
  replace hS : St ⟨g, w0⟩ (pts b3 [.int .i64 id] 3 :: pts b5 [.slice x1 x2 x3] 24 :: OwT 3 (pathF T id) (.slice x1 x2 x3) :: []) w := hS
  (repeat' (first | (show wpListIn _ _ _ _ _ (_ :: _) _ _; first | (refine wx1 ?_; clear hk a; intro a hk) | (refine wx2 ?_ ?_ <;> (intro hp; clear hk a; intro a hk)) | (refine wx3 ?_; clear hk hS a; intro w b hS a hk) | (refine wx4 ?_; clear hk hS a; intro w hS a hk) | (refine wx5 ?_; clear hk hS a; intro w v hS a hk) | fail) | refine wx0 ?_ | (refine s_end hk ?_; clear hk a; intro a hk) | fail))
  exact done1 hk (h := (hS.sub (L' := [OwT 3 (pathF T id) (.slice x1 x2 x3)]) (by (repeat (first | exact Sub.nil | exact Sub.refl | refine Sub.cons (by (repeat (first | exact At.here | apply At.there))) ?_)))).low0)
end Go.Proofs.Ytcahaaapmaahnaa
