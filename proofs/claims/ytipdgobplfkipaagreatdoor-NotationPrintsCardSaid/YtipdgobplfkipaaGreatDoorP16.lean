/- Layer 8: how a view is written: the document. -/
import Derived.Test.YtipdgobplfkipaaGreatDoorP15
import Derived.Test.YtipdgobplfkipaaGreatDoorP12
set_option linter.all false
namespace Go.Proofs.YtipdgobplfkipaaGreatDoor
open Go.RowKit
set_option maxRecDepth 100000
attribute [local irreducible] Go.Code.wpIn Go.wpListIn Go.Calls Gives Go.Exit.then Go.Exit.inBlock Done ObxE

def gP (tag : ByteArray) (l : List ByteArray) : ByteArray := ⟨#[40]⟩ ++ l.foldl addW tag
theorem gP_snoc (tag : ByteArray) (l : List ByteArray) (w : ByteArray) : gP tag l ++ (⟨#[32]⟩ ++ w) = gP tag (l ++ [w]) := by
  unfold gP; rw [addW_snoc]
  apply baeq
  simp [addW, ByteArray.data_append]
theorem two_one (c : UInt8) (x : ByteArray) : (⟨#[32, c]⟩ : ByteArray) ++ x = ⟨#[32]⟩ ++ (⟨#[c]⟩ ++ x) := by
  apply baeq; simp [ByteArray.data_append]
theorem b_assoc (a b c : ByteArray) : a ++ b ++ c = a ++ (b ++ c) := by apply baeq; simp [ByteArray.data_append]
theorem fold_mono (x : ByteArray) (l r : List ByteArray) : (l.foldl addW x).size ≤ ((l ++ r).foldl addW x).size := by
  rw [List.foldl_append]
  generalize l.foldl addW x = y
  induction r generalizing y with
  | nil => exact Nat.le_refl _
  | cons z r ih =>
    rw [List.foldl_cons]
    have h := ih (addW y z)
    have e : (addW y z).size = y.size + 1 + z.size := by
      unfold addW; rw [ByteArray.size_append, ByteArray.size_append]; rfl
    omega
theorem gP_pre {tag : ByteArray} {l WT : List ByteArray} (h : l <+: WT) : (gP tag l).size ≤ (gP tag WT).size := by
  obtain ⟨r, rfl⟩ := h
  unfold gP
  rw [ByteArray.size_append, ByteArray.size_append]
  have := fold_mono tag l r
  omega
theorem map_pre {α : Type} (A : List ByteArray) (f : α → ByteArray) (l : List α) (n : Nat) : (A ++ (l.take n).map f) <+: (A ++ l.map f) :=
  ⟨(l.drop n).map f, by rw [List.append_assoc, ← List.map_append, List.take_append_drop]⟩
abbrev k3W (k : Int) : List ByteArray := if k = 3 then [wGroup] else []
abbrev k4W (k : Int) : List ByteArray := if k = 4 then [wSlot] else []
abbrev d1W (d : Int) : List ByteArray := if d = 1 then [wOutIn] else []
abbrev d2W (d : Int) : List ByteArray := if d = 2 then [wInOut] else []
abbrev apW (p : Bool) : List ByteArray := if p = true then [wAppear] else []
abbrev mvW (q : Bool) : List ByteArray := if q = true then [wMoves] else []
theorem kind_two (k : Int) : kindW k = k3W k ++ k4W k := by
  unfold kindW k3W k4W
  by_cases h3 : k = 3
  · rw [if_pos h3, if_pos h3, if_neg (by omega)]; rfl
  · rw [if_neg h3, if_neg h3]; rfl
theorem mode_two (d : Int) : modeW d = d1W d ++ d2W d := by
  unfold modeW d1W d2W
  by_cases h3 : d = 1
  · rw [if_pos h3, if_pos h3, if_neg (by omega)]; rfl
  · rw [if_neg h3, if_neg h3]; rfl

set_option maxHeartbeats 16000000 in
theorem rprint_any : ∀ (n : Nat) (t : Tree) (h : NdH) (w0 : World), SizeOf.sizeOf t < n → PO t → (prnT t).size ≤ 900000 → TrR w0 t h → TabW w0 → Calls Tryz.prog 20 #[ndV h] w0 (Ret fun v w => v = .string (prnT t) ∧ St w0 [] w)
  | 0, _, _, _, hn, _, _, _, _ => by omega
  | n + 1, t, h, w0, hn, hf, hsz, hr, ht => by
    have ih := rprint_any n
    obtain ⟨k, tag, key, text, cl, al, sl, e, lv, m, d, p, q, kids, a1, m1, a2, m2, a3, m3, a4, m4, H, rfl, rfl, c1, c2, c3, c4, hF⟩ := hr.split
    obtain ⟨l1, l2, l3, l4, h5, h6, h7⟩ := hf
    have hHk : H.length = kids.length := hF.1
    have e39 : ByteArray.size ⟨#[39]⟩ = 1 := rfl
    have e40 : ByteArray.size ⟨#[40]⟩ = 1 := rfl
    have e41 : ByteArray.size ⟨#[41]⟩ = 1 := rfl
    have e46 : ByteArray.size ⟨#[46]⟩ = 1 := rfl
    have e35 : ByteArray.size ⟨#[35]⟩ = 1 := rfl
    have e32 : ByteArray.size ⟨#[32]⟩ = 1 := rfl
    have e61 : ByteArray.size ⟨#[61]⟩ = 1 := rfl
    have e64 : ByteArray.size ⟨#[64]⟩ = 1 := rfl
    have e2 : ∀ c, ByteArray.size ⟨#[32, c]⟩ = 2 := fun _ => rfl
    rw [prnT] at hsz ⊢
    show Calls Tryz.prog 20 #[.agg #[.int .i64 k, .string tag, .string key, .string text, .slice a1 cl.length m1, .slice a2 al.length m2, .slice a3 sl.length m3, .int .i64 e, .int .i64 lv, .int .i64 m, .int .i64 d, .bool p, .bool q, .slice a4 H.length m4]] w0 _
    refine enter Tryz.func20 rfl Tryz.ntmps20 rfl (fun a hk => ?_); have hS := St.refl w0
    by_cases hk1 : k = 1
    · rw [if_pos hk1] at hsz ⊢
      simp only [ByteArray.size_append] at hsz
      (repeat' (first | (show wpListIn _ _ _ _ _ (_ :: _) _ _; first | (refine wx1 ?_; clear hk a; intro a hk) | (refine wx2 ?_ ?_ <;> (intro hp; clear hk a; intro a hk)) | (refine wx3 ?_; clear hk hS a; intro w b hS a hk) | (refine wx4 ?_; clear hk hS a; intro w hS a hk) | (refine wx5 ?_; clear hk hS a; intro w v hS a hk) | fail) | refine wx0 ?_ | (refine s_end hk ?_; clear hk a; intro a hk) | fail))
      refine sg hk (g_cat (s := ⟨#[39]⟩) (r := text) hk ?_ (hl := by simp only [ByteArray.size_append, maxLen]; omega)); clear hk a; intro a hk
      refine sg hk (g_cat (s := ⟨#[39]⟩ ++ text) (r := ⟨#[39]⟩) hk ?_ (hl := by simp only [ByteArray.size_append, maxLen]; omega)); clear hk a; intro a hk
      (repeat' (first | (show wpListIn _ _ _ _ _ (_ :: _) _ _; first | (refine wx1 ?_; clear hk a; intro a hk) | (refine wx2 ?_ ?_ <;> (intro hp; clear hk a; intro a hk)) | (refine wx3 ?_; clear hk hS a; intro w b hS a hk) | (refine wx4 ?_; clear hk hS a; intro w hS a hk) | (refine wx5 ?_; clear hk hS a; intro w v hS a hk) | fail) | refine wx0 ?_ | (refine s_end hk ?_; clear hk a; intro a hk) | fail))
      exact done1 hk (h := ⟨rfl, hS.nil⟩)
    · rw [if_neg hk1] at hsz ⊢
      rw [ByteArray.size_append, e41, ByteArray.size_append, e40] at hsz
      obtain ⟨X0, hX0⟩ : ∃ X : List ByteArray, X = [] := ⟨_, rfl⟩
      obtain ⟨X1, hX1⟩ : ∃ X : List ByteArray, X = X0 ++ keyW key := ⟨_, rfl⟩
      obtain ⟨X2, hX2⟩ : ∃ X : List ByteArray, X = X1 ++ cl.map clsW := ⟨_, rfl⟩
      obtain ⟨X3, hX3⟩ : ∃ X : List ByteArray, X = X2 ++ al.map attW := ⟨_, rfl⟩
      obtain ⟨X4, hX4⟩ : ∃ X : List ByteArray, X = X3 ++ sl.map styW := ⟨_, rfl⟩
      obtain ⟨X5, hX5⟩ : ∃ X : List ByteArray, X = X4 ++ k3W k := ⟨_, rfl⟩
      obtain ⟨X6, hX6⟩ : ∃ X : List ByteArray, X = X5 ++ k4W k := ⟨_, rfl⟩
      obtain ⟨X7, hX7⟩ : ∃ X : List ByteArray, X = X6 ++ durW (wEnter ++ ⟨#[61]⟩) e := ⟨_, rfl⟩
      obtain ⟨X8, hX8⟩ : ∃ X : List ByteArray, X = X7 ++ durW (wLeave ++ ⟨#[61]⟩) lv := ⟨_, rfl⟩
      obtain ⟨X9, hX9⟩ : ∃ X : List ByteArray, X = X8 ++ durW (wMove ++ ⟨#[61]⟩) m := ⟨_, rfl⟩
      obtain ⟨X10, hX10⟩ : ∃ X : List ByteArray, X = X9 ++ apW p := ⟨_, rfl⟩
      obtain ⟨X11, hX11⟩ : ∃ X : List ByteArray, X = X10 ++ mvW q := ⟨_, rfl⟩
      obtain ⟨X12, hX12⟩ : ∃ X : List ByteArray, X = X11 ++ d1W d := ⟨_, rfl⟩
      obtain ⟨X13, hX13⟩ : ∃ X : List ByteArray, X = X12 ++ d2W d := ⟨_, rfl⟩
      have hW : itmW k key cl al sl (e, lv, m, d, p, q) = X13 := by
        rw [hX13, hX12, hX11, hX10, hX9, hX8, hX7, hX6, hX5, hX4, hX3, hX2, hX1, hX0]
        unfold itmW optW apW mvW
        rw [kind_two, mode_two]
        simp only [List.append_assoc, List.nil_append]
      rw [hW] at hsz ⊢
      obtain ⟨XT, hXT⟩ : ∃ X : List ByteArray, X = X13 ++ prnL kids := ⟨_, rfl⟩
      rw [← hXT] at hsz ⊢
      have hpc := fun y (hy : y ∈ tag :: XT) => piece_le hy
      have q13 : X13 <+: XT := by rw [hXT]; exact List.prefix_append _ _
      have q12 : X12 <+: XT := List.IsPrefix.trans (by rw [hX13]; exact List.prefix_append _ _) q13
      have q11 : X11 <+: XT := List.IsPrefix.trans (by rw [hX12]; exact List.prefix_append _ _) q12
      have q10 : X10 <+: XT := List.IsPrefix.trans (by rw [hX11]; exact List.prefix_append _ _) q11
      have q9 : X9 <+: XT := List.IsPrefix.trans (by rw [hX10]; exact List.prefix_append _ _) q10
      have q8 : X8 <+: XT := List.IsPrefix.trans (by rw [hX9]; exact List.prefix_append _ _) q9
      have q7 : X7 <+: XT := List.IsPrefix.trans (by rw [hX8]; exact List.prefix_append _ _) q8
      have q6 : X6 <+: XT := List.IsPrefix.trans (by rw [hX7]; exact List.prefix_append _ _) q7
      have q5 : X5 <+: XT := List.IsPrefix.trans (by rw [hX6]; exact List.prefix_append _ _) q6
      have q4 : X4 <+: XT := List.IsPrefix.trans (by rw [hX5]; exact List.prefix_append _ _) q5
      have q3 : X3 <+: XT := List.IsPrefix.trans (by rw [hX4]; exact List.prefix_append _ _) q4
      have q2 : X2 <+: XT := List.IsPrefix.trans (by rw [hX3]; exact List.prefix_append _ _) q3
      have q1 : X1 <+: XT := List.IsPrefix.trans (by rw [hX2]; exact List.prefix_append _ _) q2
      have q0 : X0 <+: XT := List.IsPrefix.trans (by rw [hX1]; exact List.prefix_append _ _) q1
      have hg : ∀ l : List ByteArray, l <+: XT → (gP tag l).size ≤ 900000 := fun l hl => by
        have h1 := gP_pre (tag := tag) hl
        have h2 : (gP tag XT).size = ((⟨#[40]⟩ : ByteArray) ++ XT.foldl addW tag).size := rfl
        rw [ByteArray.size_append, e40] at h2
        omega
      have hpk : ∀ u ∈ kids, (prnT u).size ≤ 900000 := fun u hu => by
        have h1 := hpc (prnT u) (List.mem_cons_of_mem _ (by rw [hXT]; exact List.mem_append_right _ (by rw [prnL_map]; exact List.mem_map.2 ⟨u, hu, rfl⟩)))
        omega
      have htag : tag.size ≤ 900000 := by have h1 := hpc tag (List.mem_cons_self ..); omega
      have zk : key.size ≤ 900000 := by
        by_cases h0 : key = ⟨#[]⟩
        · rw [h0]; exact Nat.zero_le _
        · have := hpc (⟨#[35]⟩ ++ key) (List.mem_cons_of_mem _ (q1.subset (by rw [hX1]; exact List.mem_append_right _ (by unfold keyW; rw [if_neg h0]; exact List.mem_singleton_self _))))
          rw [ByteArray.size_append] at this; omega
      have zc : ∀ c ∈ cl, c.size ≤ 900000 := fun c hc => by
        have := hpc (clsW c) (List.mem_cons_of_mem _ (q2.subset (by rw [hX2]; exact List.mem_append_right _ (List.mem_map.2 ⟨c, hc, rfl⟩))))
        rw [ByteArray.size_append] at this; omega
      have za : ∀ x ∈ al, x.1.size ≤ 900000 ∧ x.2.size ≤ 900000 := fun x hx => by
        have := hpc (attW x) (List.mem_cons_of_mem _ (q3.subset (by rw [hX3]; exact List.mem_append_right _ (List.mem_map.2 ⟨x, hx, rfl⟩))))
        simp only [ByteArray.size_append] at this; omega
      have zs : ∀ x ∈ sl, x.1.size ≤ 900000 := fun x hx => by
        have := hpc (styW x) (List.mem_cons_of_mem _ (q4.subset (by rw [hX4]; exact List.mem_append_right _ (List.mem_map.2 ⟨x, hx, rfl⟩))))
        simp only [ByteArray.size_append] at this; omega
      clear hpc hW
      refine wp_mid (fun a w => ∃ b1, Kn [] 150 a [(1, .pointer (some ⟨b1, 0, none⟩))] ∧ St w0 [pts b1 [.int .i64 k, .string tag, .string key, .string text, .slice a1 cl.length m1, .slice a2 al.length m2, .slice a3 sl.length m3, .int .i64 e, .int .i64 lv, .int .i64 m, .int .i64 d, .bool p, .bool q, .slice a4 H.length m4] 42] w) ?_ ?_
      · refine wpIn_region_lit ?_
        refine st_box hk hS ?_; clear hk hS a; intro w b1 hS a hk
        (repeat' (first | (show wpListIn _ _ _ _ _ (_ :: _) _ _; first | (refine wx1 ?_; clear hk a; intro a hk) | (refine wx2 ?_ ?_ <;> (intro hp; clear hk a; intro a hk)) | (refine wx3 ?_; clear hk hS a; intro w b hS a hk) | (refine wx4 ?_; clear hk hS a; intro w hS a hk) | (refine wx5 ?_; clear hk hS a; intro w v hS a hk) | fail) | refine wx0 ?_ | (refine s_end hk ?_; clear hk a; intro a hk) | fail))
        exact ⟨b1, hk.sub (by repeat (first | exact trivial | refine ⟨rfl, ?_⟩)), hS.sub (by (repeat (first | exact Sub.nil | exact Sub.refl | refine Sub.cons (by (repeat (first | exact At.here | apply At.there))) ?_)))⟩
      clear hk hS a
      try clear w
      rintro a w ⟨b1, hk, hS⟩
      refine wp_mid (fun a w => Kn [] 150 a [(1, .pointer (some ⟨b1, 0, none⟩))] ∧ St w0 [pts b1 [.int .i64 k, .string tag, .string key, .string text, .slice a1 cl.length m1, .slice a2 al.length m2, .slice a3 sl.length m3, .int .i64 e, .int .i64 lv, .int .i64 m, .int .i64 d, .bool p, .bool q, .slice a4 H.length m4] 42] w) ?_ ?_
      · (repeat' (first | (show wpListIn _ _ _ _ _ (_ :: _) _ _; first | (refine wx1 ?_; clear hk a; intro a hk) | (refine wx2 ?_ ?_ <;> (intro hp; clear hk a; intro a hk)) | (refine wx3 ?_; clear hk hS a; intro w b hS a hk) | (refine wx4 ?_; clear hk hS a; intro w hS a hk) | (refine wx5 ?_; clear hk hS a; intro w v hS a hk) | fail) | refine wx0 ?_ | (refine s_end hk ?_; clear hk a; intro a hk) | fail))
        exact ⟨hk.sub (by repeat (first | exact trivial | refine ⟨rfl, ?_⟩)), hS.sub (by (repeat (first | exact Sub.nil | exact Sub.refl | refine Sub.cons (by (repeat (first | exact At.here | apply At.there))) ?_)))⟩
      clear hk hS a
      try clear w
      rintro a w ⟨hk, hS⟩
      refine wp_mid (fun a w => Kn [] 150 a [(1, .pointer (some ⟨b1, 0, none⟩)), (3, .string (gP tag (X0)))] ∧ St w0 [pts b1 [.int .i64 k, .string tag, .string key, .string text, .slice a1 cl.length m1, .slice a2 al.length m2, .slice a3 sl.length m3, .int .i64 e, .int .i64 lv, .int .i64 m, .int .i64 d, .bool p, .bool q, .slice a4 H.length m4] 42] w) ?_ ?_
      · (repeat' (first | (show wpListIn _ _ _ _ _ (_ :: _) _ _; first | (refine wx1 ?_; clear hk a; intro a hk) | (refine wx2 ?_ ?_ <;> (intro hp; clear hk a; intro a hk)) | (refine wx3 ?_; clear hk hS a; intro w b hS a hk) | (refine wx4 ?_; clear hk hS a; intro w hS a hk) | (refine wx5 ?_; clear hk hS a; intro w v hS a hk) | fail) | refine wx0 ?_ | (refine s_end hk ?_; clear hk a; intro a hk) | fail))
        refine sg hk (g_cat (s := ⟨#[40]⟩) (r := tag) hk ?_ (hl := by simp only [maxLen]; omega)); clear hk a; intro a hk
        (repeat' (first | (show wpListIn _ _ _ _ _ (_ :: _) _ _; first | (refine wx1 ?_; clear hk a; intro a hk) | (refine wx2 ?_ ?_ <;> (intro hp; clear hk a; intro a hk)) | (refine wx3 ?_; clear hk hS a; intro w b hS a hk) | (refine wx4 ?_; clear hk hS a; intro w hS a hk) | (refine wx5 ?_; clear hk hS a; intro w v hS a hk) | fail) | refine wx0 ?_ | (refine s_end hk ?_; clear hk a; intro a hk) | fail))
        have ez : gP tag X0 = ⟨#[40]⟩ ++ tag := by rw [hX0]; rfl
        rw [ez]
        exact ⟨hk.sub (by repeat (first | exact trivial | refine ⟨rfl, ?_⟩)), hS.sub (by (repeat (first | exact Sub.nil | exact Sub.refl | refine Sub.cons (by (repeat (first | exact At.here | apply At.there))) ?_)))⟩
      clear hk hS a
      try clear w
      rintro a w ⟨hk, hS⟩
      refine wp_mid (fun a w => Kn [] 150 a [(1, .pointer (some ⟨b1, 0, none⟩)), (3, .string (gP tag (X1)))] ∧ St w0 [pts b1 [.int .i64 k, .string tag, .string key, .string text, .slice a1 cl.length m1, .slice a2 al.length m2, .slice a3 sl.length m3, .int .i64 e, .int .i64 lv, .int .i64 m, .int .i64 d, .bool p, .bool q, .slice a4 H.length m4] 42] w) ?_ ?_
      · have hgj := hg X0 q0
        by_cases h0 : key = ⟨#[]⟩
        · have ez : X1 = X0 := by rw [hX1]; unfold keyW; rw [if_pos h0, List.append_nil]
          (repeat' (first | (show wpListIn _ _ _ _ _ (_ :: _) _ _; first | (refine wx1 ?_; clear hk a; intro a hk) | (refine wx2 ?_ ?_ <;> (intro hp; clear hk a; intro a hk)) | (refine wx3 ?_; clear hk hS a; intro w b hS a hk) | (refine wx4 ?_; clear hk hS a; intro w hS a hk) | (refine wx5 ?_; clear hk hS a; intro w v hS a hk) | fail) | refine wx0 ?_ | (refine s_end hk ?_; clear hk a; intro a hk) | fail))
          rw [ez]
          exact ⟨hk.sub (by repeat (first | exact trivial | refine ⟨rfl, ?_⟩)), hS.sub (by (repeat (first | exact Sub.nil | exact Sub.refl | refine Sub.cons (by (repeat (first | exact At.here | apply At.there))) ?_)))⟩
        · have ez : X1 = X0 ++ [⟨#[35]⟩ ++ key] := by rw [hX1]; unfold keyW; rw [if_neg h0]
          (repeat' (first | (show wpListIn _ _ _ _ _ (_ :: _) _ _; first | (refine wx1 ?_; clear hk a; intro a hk) | (refine wx2 ?_ ?_ <;> (intro hp; clear hk a; intro a hk)) | (refine wx3 ?_; clear hk hS a; intro w b hS a hk) | (refine wx4 ?_; clear hk hS a; intro w hS a hk) | (refine wx5 ?_; clear hk hS a; intro w v hS a hk) | fail) | refine wx0 ?_ | (refine s_end hk ?_; clear hk a; intro a hk) | fail))
          refine sg hk (g_cat (s := ⟨#[32, 35]⟩) (r := key) hk ?_ (hl := by rw [e2]; simp only [maxLen]; omega)); clear hk a; intro a hk
          refine sg hk (g_cat (s := gP tag X0) (r := ⟨#[32, 35]⟩ ++ key) hk ?_ (hl := by rw [ByteArray.size_append, e2]; simp only [maxLen]; omega)); clear hk a; intro a hk
          rw [two_one, gP_snoc, ← ez] at hk
          (repeat' (first | (show wpListIn _ _ _ _ _ (_ :: _) _ _; first | (refine wx1 ?_; clear hk a; intro a hk) | (refine wx2 ?_ ?_ <;> (intro hp; clear hk a; intro a hk)) | (refine wx3 ?_; clear hk hS a; intro w b hS a hk) | (refine wx4 ?_; clear hk hS a; intro w hS a hk) | (refine wx5 ?_; clear hk hS a; intro w v hS a hk) | fail) | refine wx0 ?_ | (refine s_end hk ?_; clear hk a; intro a hk) | fail))
          exact ⟨hk.sub (by repeat (first | exact trivial | refine ⟨rfl, ?_⟩)), hS.sub (by (repeat (first | exact Sub.nil | exact Sub.refl | refine Sub.cons (by (repeat (first | exact At.here | apply At.there))) ?_)))⟩
      clear hk hS a
      try clear w
      rintro a w ⟨hk, hS⟩
      refine wp_mid (fun a w => Kn [] 150 a [(1, .pointer (some ⟨b1, 0, none⟩)), (3, .string (gP tag (X2)))] ∧ St w0 [pts b1 [.int .i64 k, .string tag, .string key, .string text, .slice a1 cl.length m1, .slice a2 al.length m2, .slice a3 sl.length m3, .int .i64 e, .int .i64 lv, .int .i64 m, .int .i64 d, .bool p, .bool q, .slice a4 H.length m4] 42] w) ?_ ?_
      · have c' := hS.rdT c1
        (repeat' (first | (show wpListIn _ _ _ _ _ (_ :: _) _ _; first | (refine wx1 ?_; clear hk a; intro a hk) | (refine wx2 ?_ ?_ <;> (intro hp; clear hk a; intro a hk)) | (refine wx3 ?_; clear hk hS a; intro w b hS a hk) | (refine wx4 ?_; clear hk hS a; intro w hS a hk) | (refine wx5 ?_; clear hk hS a; intro w v hS a hk) | fail) | refine wx0 ?_ | (refine s_end hk ?_; clear hk a; intro a hk) | fail))
        have ez : gP tag X1 = gP tag (X1 ++ (cl.take 0).map clsW) := by rw [List.take_zero, List.map_nil, List.append_nil]
        rw [ez] at hk
        replace hk := Kn.kp [1, 3, 32, 33, 34] hk
        refine wp_for cl.length (fun i _ => [(3, .string (gP tag (X1 ++ (cl.take i).map clsW))), (34, .int .i64 (i : Int))]) (fun _ _ => [pts b1 [.int .i64 k, .string tag, .string key, .string text, .slice a1 cl.length m1, .slice a2 al.length m2, .slice a3 sl.length m3, .int .i64 e, .int .i64 lv, .int .i64 m, .int .i64 d, .bool p, .bool q, .slice a4 H.length m4] 42]) (fun _ _ => True) () hk (by repeat (first | exact trivial | refine ⟨rfl, ?_⟩)) (hS.sub (by (repeat (first | exact Sub.nil | exact Sub.refl | refine Sub.cons (by (repeat (first | exact At.here | apply At.there))) ?_)))) trivial ?_
        clear hk hS a c' ez
        rintro i - a w hi hk hS -
        have c' := hS.rdT c1
        have hgj := hg (X1 ++ (cl.take i).map clsW) ((map_pre X1 clsW cl i).trans (by rw [← hX2]; exact q2))
        by_cases hil : i < cl.length
        · obtain ⟨c, hx⟩ : ∃ x, cl[i]? = some x := ⟨_, List.getElem?_eq_getElem hil⟩
          have hcs := zc c (List.mem_of_getElem? hx)
          have hst : X1 ++ (cl.take (i + 1)).map clsW = (X1 ++ (cl.take i).map clsW) ++ [clsW c] := by rw [take_snoc hx, List.map_append, List.append_assoc]; rfl
          generalize X1 ++ (cl.take i).map clsW = Y at *
          (repeat' (first | (show wpListIn _ _ _ _ _ (_ :: _) _ _; first | (refine wx1 ?_; clear hk a; intro a hk) | (refine wx2 ?_ ?_ <;> (intro hp; clear hk a; intro a hk)) | (refine wx3 ?_; clear hk hS a; intro w b hS a hk) | (refine wx4 ?_; clear hk hS a; intro w hS a hk) | (refine wx5 ?_; clear hk hS a; intro w v hS a hk) | fail) | refine wx0 ?_ | (refine s_end hk ?_; clear hk a; intro a hk) | fail))
          refine sg hk (g_cat (s := ⟨#[32, 46]⟩) (r := c) hk ?_ (hl := by simp only [ByteArray.size_append, e2, maxLen]; omega)); clear hk a; intro a hk
          refine sg hk (g_cat (s := gP tag Y) (r := ⟨#[32, 46]⟩ ++ c) hk ?_ (hl := by simp only [ByteArray.size_append, e2, maxLen]; omega)); clear hk a; intro a hk
          rw [two_one] at hk
          rw [gP_snoc, ← hst] at hk
          (repeat' (first | (show wpListIn _ _ _ _ _ (_ :: _) _ _; first | (refine wx1 ?_; clear hk a; intro a hk) | (refine wx2 ?_ ?_ <;> (intro hp; clear hk a; intro a hk)) | (refine wx3 ?_; clear hk hS a; intro w b hS a hk) | (refine wx4 ?_; clear hk hS a; intro w hS a hk) | (refine wx5 ?_; clear hk hS a; intro w v hS a hk) | fail) | refine wx0 ?_ | (refine s_end hk ?_; clear hk a; intro a hk) | fail))
          exact ⟨hil, (), hk.sd, hS.sub (by (repeat (first | exact Sub.nil | exact Sub.refl | refine Sub.cons (by (repeat (first | exact At.here | apply At.there))) ?_))), trivial⟩
        · have hii : i = cl.length := by omega
          subst hii
          rw [List.take_length, ← hX2] at hk
          (repeat' (first | (show wpListIn _ _ _ _ _ (_ :: _) _ _; first | (refine wx1 ?_; clear hk a; intro a hk) | (refine wx2 ?_ ?_ <;> (intro hp; clear hk a; intro a hk)) | (refine wx3 ?_; clear hk hS a; intro w b hS a hk) | (refine wx4 ?_; clear hk hS a; intro w hS a hk) | (refine wx5 ?_; clear hk hS a; intro w v hS a hk) | fail) | refine wx0 ?_ | (refine s_end hk ?_; clear hk a; intro a hk) | fail))
          exact ⟨hk.sub (by repeat (first | exact trivial | refine ⟨rfl, ?_⟩)), hS.sub (by (repeat (first | exact Sub.nil | exact Sub.refl | refine Sub.cons (by (repeat (first | exact At.here | apply At.there))) ?_)))⟩
      clear hk hS a
      try clear w
      rintro a w ⟨hk, hS⟩
      refine wp_mid (fun a w => Kn [] 150 a [(1, .pointer (some ⟨b1, 0, none⟩)), (3, .string (gP tag (X3)))] ∧ St w0 [pts b1 [.int .i64 k, .string tag, .string key, .string text, .slice a1 cl.length m1, .slice a2 al.length m2, .slice a3 sl.length m3, .int .i64 e, .int .i64 lv, .int .i64 m, .int .i64 d, .bool p, .bool q, .slice a4 H.length m4] 42] w) ?_ ?_
      · have c' := hS.rdT c2
        (repeat' (first | (show wpListIn _ _ _ _ _ (_ :: _) _ _; first | (refine wx1 ?_; clear hk a; intro a hk) | (refine wx2 ?_ ?_ <;> (intro hp; clear hk a; intro a hk)) | (refine wx3 ?_; clear hk hS a; intro w b hS a hk) | (refine wx4 ?_; clear hk hS a; intro w hS a hk) | (refine wx5 ?_; clear hk hS a; intro w v hS a hk) | fail) | refine wx0 ?_ | (refine s_end hk ?_; clear hk a; intro a hk) | fail))
        have ez : gP tag X2 = gP tag (X2 ++ (al.take 0).map attW) := by rw [List.take_zero, List.map_nil, List.append_nil]
        rw [ez] at hk
        replace hk := Kn.kp [1, 3, 44, 45, 46] hk
        refine wp_for al.length (fun i _ => [(3, .string (gP tag (X2 ++ (al.take i).map attW))), (46, .int .i64 (i : Int))]) (fun _ _ => [pts b1 [.int .i64 k, .string tag, .string key, .string text, .slice a1 cl.length m1, .slice a2 al.length m2, .slice a3 sl.length m3, .int .i64 e, .int .i64 lv, .int .i64 m, .int .i64 d, .bool p, .bool q, .slice a4 H.length m4] 42]) (fun _ _ => True) () hk (by repeat (first | exact trivial | refine ⟨rfl, ?_⟩)) (hS.sub (by (repeat (first | exact Sub.nil | exact Sub.refl | refine Sub.cons (by (repeat (first | exact At.here | apply At.there))) ?_)))) trivial ?_
        clear hk hS a c' ez
        rintro i - a w hi hk hS -
        have c' := hS.rdT c2
        have hgj := hg (X2 ++ (al.take i).map attW) ((map_pre X2 attW al i).trans (by rw [← hX3]; exact q3))
        by_cases hil : i < al.length
        · obtain ⟨⟨nm, val⟩, hx⟩ : ∃ x, al[i]? = some x := ⟨_, List.getElem?_eq_getElem hil⟩
          have hcs := za _ (List.mem_of_getElem? hx)
          simp only at hcs
          have hst : X2 ++ (al.take (i + 1)).map attW = (X2 ++ (al.take i).map attW) ++ [attW (nm, val)] := by rw [take_snoc hx, List.map_append, List.append_assoc]; rfl
          generalize X2 ++ (al.take i).map attW = Y at *
          (repeat' (first | (show wpListIn _ _ _ _ _ (_ :: _) _ _; first | (refine wx1 ?_; clear hk a; intro a hk) | (refine wx2 ?_ ?_ <;> (intro hp; clear hk a; intro a hk)) | (refine wx3 ?_; clear hk hS a; intro w b hS a hk) | (refine wx4 ?_; clear hk hS a; intro w hS a hk) | (refine wx5 ?_; clear hk hS a; intro w v hS a hk) | fail) | refine wx0 ?_ | (refine s_end hk ?_; clear hk a; intro a hk) | fail))
          refine sg hk (g_cat (s := ⟨#[32, 64]⟩) (r := nm) hk ?_ (hl := by simp only [ByteArray.size_append, e2, maxLen]; omega)); clear hk a; intro a hk
          refine sg hk (g_cat (s := ⟨#[32, 64]⟩ ++ nm) (r := ⟨#[61]⟩) hk ?_ (hl := by simp only [ByteArray.size_append, e2, maxLen]; omega)); clear hk a; intro a hk
          (repeat' (first | (show wpListIn _ _ _ _ _ (_ :: _) _ _; first | (refine wx1 ?_; clear hk a; intro a hk) | (refine wx2 ?_ ?_ <;> (intro hp; clear hk a; intro a hk)) | (refine wx3 ?_; clear hk hS a; intro w b hS a hk) | (refine wx4 ?_; clear hk hS a; intro w hS a hk) | (refine wx5 ?_; clear hk hS a; intro w v hS a hk) | fail) | refine wx0 ?_ | (refine s_end hk ?_; clear hk a; intro a hk) | fail))
          refine sg hk (g_cat (s := ⟨#[32, 64]⟩ ++ nm ++ ⟨#[61]⟩) (r := val) hk ?_ (hl := by simp only [ByteArray.size_append, e2, maxLen]; omega)); clear hk a; intro a hk
          refine sg hk (g_cat (s := gP tag Y) (r := ⟨#[32, 64]⟩ ++ nm ++ ⟨#[61]⟩ ++ val) hk ?_ (hl := by simp only [ByteArray.size_append, e2, maxLen]; omega)); clear hk a; intro a hk
          rw [show (⟨#[32, 64]⟩ : ByteArray) ++ nm ++ ⟨#[61]⟩ ++ val = ⟨#[32]⟩ ++ attW (nm, val) from by rw [two_one, b_assoc, b_assoc, b_assoc, attW, b_assoc, b_assoc]] at hk
          rw [gP_snoc, ← hst] at hk
          (repeat' (first | (show wpListIn _ _ _ _ _ (_ :: _) _ _; first | (refine wx1 ?_; clear hk a; intro a hk) | (refine wx2 ?_ ?_ <;> (intro hp; clear hk a; intro a hk)) | (refine wx3 ?_; clear hk hS a; intro w b hS a hk) | (refine wx4 ?_; clear hk hS a; intro w hS a hk) | (refine wx5 ?_; clear hk hS a; intro w v hS a hk) | fail) | refine wx0 ?_ | (refine s_end hk ?_; clear hk a; intro a hk) | fail))
          exact ⟨hil, (), hk.sd, hS.sub (by (repeat (first | exact Sub.nil | exact Sub.refl | refine Sub.cons (by (repeat (first | exact At.here | apply At.there))) ?_))), trivial⟩
        · have hii : i = al.length := by omega
          subst hii
          rw [List.take_length, ← hX3] at hk
          (repeat' (first | (show wpListIn _ _ _ _ _ (_ :: _) _ _; first | (refine wx1 ?_; clear hk a; intro a hk) | (refine wx2 ?_ ?_ <;> (intro hp; clear hk a; intro a hk)) | (refine wx3 ?_; clear hk hS a; intro w b hS a hk) | (refine wx4 ?_; clear hk hS a; intro w hS a hk) | (refine wx5 ?_; clear hk hS a; intro w v hS a hk) | fail) | refine wx0 ?_ | (refine s_end hk ?_; clear hk a; intro a hk) | fail))
          exact ⟨hk.sub (by repeat (first | exact trivial | refine ⟨rfl, ?_⟩)), hS.sub (by (repeat (first | exact Sub.nil | exact Sub.refl | refine Sub.cons (by (repeat (first | exact At.here | apply At.there))) ?_)))⟩
      clear hk hS a
      try clear w
      rintro a w ⟨hk, hS⟩
      refine wp_mid (fun a w => Kn [] 150 a [(1, .pointer (some ⟨b1, 0, none⟩)), (3, .string (gP tag (X4)))] ∧ St w0 [pts b1 [.int .i64 k, .string tag, .string key, .string text, .slice a1 cl.length m1, .slice a2 al.length m2, .slice a3 sl.length m3, .int .i64 e, .int .i64 lv, .int .i64 m, .int .i64 d, .bool p, .bool q, .slice a4 H.length m4] 42] w) ?_ ?_
      · have c' := hS.rdT c3
        (repeat' (first | (show wpListIn _ _ _ _ _ (_ :: _) _ _; first | (refine wx1 ?_; clear hk a; intro a hk) | (refine wx2 ?_ ?_ <;> (intro hp; clear hk a; intro a hk)) | (refine wx3 ?_; clear hk hS a; intro w b hS a hk) | (refine wx4 ?_; clear hk hS a; intro w hS a hk) | (refine wx5 ?_; clear hk hS a; intro w v hS a hk) | fail) | refine wx0 ?_ | (refine s_end hk ?_; clear hk a; intro a hk) | fail))
        have ez : gP tag X3 = gP tag (X3 ++ (sl.take 0).map styW) := by rw [List.take_zero, List.map_nil, List.append_nil]
        rw [ez] at hk
        replace hk := Kn.kp [1, 3, 61, 62, 63] hk
        refine wp_for sl.length (fun i _ => [(3, .string (gP tag (X3 ++ (sl.take i).map styW))), (63, .int .i64 (i : Int))]) (fun _ _ => [pts b1 [.int .i64 k, .string tag, .string key, .string text, .slice a1 cl.length m1, .slice a2 al.length m2, .slice a3 sl.length m3, .int .i64 e, .int .i64 lv, .int .i64 m, .int .i64 d, .bool p, .bool q, .slice a4 H.length m4] 42]) (fun _ _ => True) () hk (by repeat (first | exact trivial | refine ⟨rfl, ?_⟩)) (hS.sub (by (repeat (first | exact Sub.nil | exact Sub.refl | refine Sub.cons (by (repeat (first | exact At.here | apply At.there))) ?_)))) trivial ?_
        clear hk hS a c' ez
        rintro i - a w hi hk hS -
        have c' := hS.rdT c3
        have hgj := hg (X3 ++ (sl.take i).map styW) ((map_pre X3 styW sl i).trans (by rw [← hX4]; exact q4))
        by_cases hil : i < sl.length
        · obtain ⟨⟨nm, z⟩, hx⟩ : ∃ x, sl[i]? = some x := ⟨_, List.getElem?_eq_getElem hil⟩
          have hcs := zs _ (List.mem_of_getElem? hx)
          have hz64 := h5 _ (List.mem_of_getElem? hx)
          simp only at hcs hz64
          have hzs := itoR_size hz64
          have hst : X3 ++ (sl.take (i + 1)).map styW = (X3 ++ (sl.take i).map styW) ++ [styW (nm, z)] := by rw [take_snoc hx, List.map_append, List.append_assoc]; rfl
          generalize X3 ++ (sl.take i).map styW = Y at *
          (repeat' (first | (show wpListIn _ _ _ _ _ (_ :: _) _ _; first | (refine wx1 ?_; clear hk a; intro a hk) | (refine wx2 ?_ ?_ <;> (intro hp; clear hk a; intro a hk)) | (refine wx3 ?_; clear hk hS a; intro w b hS a hk) | (refine wx4 ?_; clear hk hS a; intro w hS a hk) | (refine wx5 ?_; clear hk hS a; intro w v hS a hk) | fail) | refine wx0 ?_ | (refine s_end hk ?_; clear hk a; intro a hk) | fail))
          refine wp_drawn 10 mixed (by kernel_rfl) hk hS ?_; clear hk hS a
          (repeat' (first | (show ObxE _ _ _ _ _ _ _ _ _ (_ :: _) _ _ _; first | refine ox1 ?_ | (refine ox2 ?_ ?_ <;> intro hp) | fail) | fail))
          refine' obe_val (fun us a w hk hd hS => ?_) ?_; rotate_left; focus (have hk := Kn.vw hk (by repeat (first | exact VW.nil | apply VW.val rfl | apply VW.base rfl rfl | apply VW.res rfl | apply VW.upd rfl | apply VW.cpy rfl | apply VW.dep rfl | apply VW.fn rfl | apply VW.lnd rfl | apply VW.tak rfl)); exact g_cat (s := ⟨#[32]⟩) (r := nm) hk (same _ _) (hl := by simp only [ByteArray.size_append, e2, maxLen]; omega))
          refine' obe_val (fun us a w hk hd hS => ?_) ?_; rotate_left; focus (have hk := Kn.vw hk (by repeat (first | exact VW.nil | apply VW.val rfl | apply VW.base rfl rfl | apply VW.res rfl | apply VW.upd rfl | apply VW.cpy rfl | apply VW.dep rfl | apply VW.fn rfl | apply VW.lnd rfl | apply VW.tak rfl)); exact g_cat (s := ⟨#[32]⟩ ++ nm) (r := ⟨#[61]⟩) hk (same _ _) (hl := by simp only [ByteArray.size_append, e2, maxLen]; omega))
          (repeat' (first | (show ObxE _ _ _ _ _ _ _ _ _ (_ :: _) _ _ _; first | refine ox1 ?_ | (refine ox2 ?_ ?_ <;> intro hp) | fail) | fail))
          refine' obe_val (fun us a w hk hd hS => ?_) ?_; rotate_left; focus (have hk := Kn.vw hk (by repeat (first | exact VW.nil | apply VW.val rfl | apply VW.base rfl rfl | apply VW.res rfl | apply VW.upd rfl | apply VW.cpy rfl | apply VW.dep rfl | apply VW.fn rfl | apply VW.lnd rfl | apply VW.tak rfl)); exact g_callO hk (hf := by kernel_rfl) (hc := itoa_any z hz64.1 hz64.2 _ (ht.mono hS.below)) (h := fun _ _ h => h))
          refine' obe_val (fun us a w hk hd hS => ?_) ?_; rotate_left; focus (have hk := Kn.vw hk (by repeat (first | exact VW.nil | apply VW.val rfl | apply VW.base rfl rfl | apply VW.res rfl | apply VW.upd rfl | apply VW.cpy rfl | apply VW.dep rfl | apply VW.fn rfl | apply VW.lnd rfl | apply VW.tak rfl)); exact g_cat (s := ⟨#[32]⟩ ++ nm ++ ⟨#[61]⟩) (r := itoS z) hk (same _ _) (hl := by simp only [ByteArray.size_append, e2, maxLen]; omega))
          refine' obe_val (fun us a w hk hd hS => ?_) ?_; rotate_left; focus (have hk := Kn.vw hk (by repeat (first | exact VW.nil | apply VW.val rfl | apply VW.base rfl rfl | apply VW.res rfl | apply VW.upd rfl | apply VW.cpy rfl | apply VW.dep rfl | apply VW.fn rfl | apply VW.lnd rfl | apply VW.tak rfl)); exact g_cat (s := gP tag Y) (r := ⟨#[32]⟩ ++ nm ++ ⟨#[61]⟩ ++ itoS z) hk (same _ _) (hl := by simp only [ByteArray.size_append, e2, maxLen]; omega))
          refine obe_nil ⟨rfl, ?_⟩; intro us a w hk hS
          (repeat' (first | (show wpListIn _ _ _ _ _ (_ :: _) _ _; first | (refine wx1 ?_; clear hk a; intro a hk) | (refine wx2 ?_ ?_ <;> (intro hp; clear hk a; intro a hk)) | (refine wx3 ?_; clear hk hS a; intro w b hS a hk) | (refine wx4 ?_; clear hk hS a; intro w hS a hk) | (refine wx5 ?_; clear hk hS a; intro w v hS a hk) | fail) | refine wx0 ?_ | (refine s_end hk ?_; clear hk a; intro a hk) | fail))
          rw [show (⟨#[32]⟩ : ByteArray) ++ nm ++ ⟨#[61]⟩ ++ itoS z = ⟨#[32]⟩ ++ styW (nm, z) from by rw [b_assoc, b_assoc, styW, b_assoc]] at hk
          rw [gP_snoc, ← hst] at hk
          (repeat' (first | (show wpListIn _ _ _ _ _ (_ :: _) _ _; first | (refine wx1 ?_; clear hk a; intro a hk) | (refine wx2 ?_ ?_ <;> (intro hp; clear hk a; intro a hk)) | (refine wx3 ?_; clear hk hS a; intro w b hS a hk) | (refine wx4 ?_; clear hk hS a; intro w hS a hk) | (refine wx5 ?_; clear hk hS a; intro w v hS a hk) | fail) | refine wx0 ?_ | (refine s_end hk ?_; clear hk a; intro a hk) | fail))
          exact ⟨hil, (), hk.sd, hS.sub (by (repeat (first | exact Sub.nil | exact Sub.refl | refine Sub.cons (by (repeat (first | exact At.here | apply At.there))) ?_))), trivial⟩
        · have hii : i = sl.length := by omega
          subst hii
          rw [List.take_length, ← hX4] at hk
          (repeat' (first | (show wpListIn _ _ _ _ _ (_ :: _) _ _; first | (refine wx1 ?_; clear hk a; intro a hk) | (refine wx2 ?_ ?_ <;> (intro hp; clear hk a; intro a hk)) | (refine wx3 ?_; clear hk hS a; intro w b hS a hk) | (refine wx4 ?_; clear hk hS a; intro w hS a hk) | (refine wx5 ?_; clear hk hS a; intro w v hS a hk) | fail) | refine wx0 ?_ | (refine s_end hk ?_; clear hk a; intro a hk) | fail))
          exact ⟨hk.sub (by repeat (first | exact trivial | refine ⟨rfl, ?_⟩)), hS.sub (by (repeat (first | exact Sub.nil | exact Sub.refl | refine Sub.cons (by (repeat (first | exact At.here | apply At.there))) ?_)))⟩
      clear hk hS a
      try clear w
      rintro a w ⟨hk, hS⟩
      refine wp_mid (fun a w => Kn [] 150 a [(1, .pointer (some ⟨b1, 0, none⟩)), (3, .string (gP tag (X5)))] ∧ St w0 [pts b1 [.int .i64 k, .string tag, .string key, .string text, .slice a1 cl.length m1, .slice a2 al.length m2, .slice a3 sl.length m3, .int .i64 e, .int .i64 lv, .int .i64 m, .int .i64 d, .bool p, .bool q, .slice a4 H.length m4] 42] w) ?_ ?_
      · have hgj := hg X4 q4
        by_cases hc0 : k = 3
        · have ez : X5 = X4 ++ [wGroup] := by rw [hX5]; unfold k3W; rw [if_pos hc0]
          (repeat' (first | (show wpListIn _ _ _ _ _ (_ :: _) _ _; first | (refine wx1 ?_; clear hk a; intro a hk) | (refine wx2 ?_ ?_ <;> (intro hp; clear hk a; intro a hk)) | (refine wx3 ?_; clear hk hS a; intro w b hS a hk) | (refine wx4 ?_; clear hk hS a; intro w hS a hk) | (refine wx5 ?_; clear hk hS a; intro w v hS a hk) | fail) | refine wx0 ?_ | (refine s_end hk ?_; clear hk a; intro a hk) | fail))
          refine sg hk (g_cat (s := gP tag X4) (r := ⟨#[32, 33, 103, 114, 111, 117, 112]⟩) hk ?_ (hl := by have : (⟨#[32, 33, 103, 114, 111, 117, 112]⟩ : ByteArray).size ≤ 100 := (by decide); simp only [maxLen]; omega)); clear hk a; intro a hk
          rw [show (⟨#[32, 33, 103, 114, 111, 117, 112]⟩ : ByteArray) = ⟨#[32]⟩ ++ wGroup from rfl, gP_snoc, ← ez] at hk
          (repeat' (first | (show wpListIn _ _ _ _ _ (_ :: _) _ _; first | (refine wx1 ?_; clear hk a; intro a hk) | (refine wx2 ?_ ?_ <;> (intro hp; clear hk a; intro a hk)) | (refine wx3 ?_; clear hk hS a; intro w b hS a hk) | (refine wx4 ?_; clear hk hS a; intro w hS a hk) | (refine wx5 ?_; clear hk hS a; intro w v hS a hk) | fail) | refine wx0 ?_ | (refine s_end hk ?_; clear hk a; intro a hk) | fail))
          exact ⟨hk.sub (by repeat (first | exact trivial | refine ⟨rfl, ?_⟩)), hS.sub (by (repeat (first | exact Sub.nil | exact Sub.refl | refine Sub.cons (by (repeat (first | exact At.here | apply At.there))) ?_)))⟩
        · have ez : X5 = X4 := by rw [hX5]; unfold k3W; rw [if_neg hc0, List.append_nil]
          (repeat' (first | (show wpListIn _ _ _ _ _ (_ :: _) _ _; first | (refine wx1 ?_; clear hk a; intro a hk) | (refine wx2 ?_ ?_ <;> (intro hp; clear hk a; intro a hk)) | (refine wx3 ?_; clear hk hS a; intro w b hS a hk) | (refine wx4 ?_; clear hk hS a; intro w hS a hk) | (refine wx5 ?_; clear hk hS a; intro w v hS a hk) | fail) | refine wx0 ?_ | (refine s_end hk ?_; clear hk a; intro a hk) | fail))
          rw [ez]
          exact ⟨hk.sub (by repeat (first | exact trivial | refine ⟨rfl, ?_⟩)), hS.sub (by (repeat (first | exact Sub.nil | exact Sub.refl | refine Sub.cons (by (repeat (first | exact At.here | apply At.there))) ?_)))⟩
      clear hk hS a
      try clear w
      rintro a w ⟨hk, hS⟩
      refine wp_mid (fun a w => Kn [] 150 a [(1, .pointer (some ⟨b1, 0, none⟩)), (3, .string (gP tag (X6)))] ∧ St w0 [pts b1 [.int .i64 k, .string tag, .string key, .string text, .slice a1 cl.length m1, .slice a2 al.length m2, .slice a3 sl.length m3, .int .i64 e, .int .i64 lv, .int .i64 m, .int .i64 d, .bool p, .bool q, .slice a4 H.length m4] 42] w) ?_ ?_
      · have hgj := hg X5 q5
        by_cases hc0 : k = 4
        · have ez : X6 = X5 ++ [wSlot] := by rw [hX6]; unfold k4W; rw [if_pos hc0]
          (repeat' (first | (show wpListIn _ _ _ _ _ (_ :: _) _ _; first | (refine wx1 ?_; clear hk a; intro a hk) | (refine wx2 ?_ ?_ <;> (intro hp; clear hk a; intro a hk)) | (refine wx3 ?_; clear hk hS a; intro w b hS a hk) | (refine wx4 ?_; clear hk hS a; intro w hS a hk) | (refine wx5 ?_; clear hk hS a; intro w v hS a hk) | fail) | refine wx0 ?_ | (refine s_end hk ?_; clear hk a; intro a hk) | fail))
          refine sg hk (g_cat (s := gP tag X5) (r := ⟨#[32, 33, 115, 108, 111, 116]⟩) hk ?_ (hl := by have : (⟨#[32, 33, 115, 108, 111, 116]⟩ : ByteArray).size ≤ 100 := (by decide); simp only [maxLen]; omega)); clear hk a; intro a hk
          rw [show (⟨#[32, 33, 115, 108, 111, 116]⟩ : ByteArray) = ⟨#[32]⟩ ++ wSlot from rfl, gP_snoc, ← ez] at hk
          (repeat' (first | (show wpListIn _ _ _ _ _ (_ :: _) _ _; first | (refine wx1 ?_; clear hk a; intro a hk) | (refine wx2 ?_ ?_ <;> (intro hp; clear hk a; intro a hk)) | (refine wx3 ?_; clear hk hS a; intro w b hS a hk) | (refine wx4 ?_; clear hk hS a; intro w hS a hk) | (refine wx5 ?_; clear hk hS a; intro w v hS a hk) | fail) | refine wx0 ?_ | (refine s_end hk ?_; clear hk a; intro a hk) | fail))
          exact ⟨hk.sub (by repeat (first | exact trivial | refine ⟨rfl, ?_⟩)), hS.sub (by (repeat (first | exact Sub.nil | exact Sub.refl | refine Sub.cons (by (repeat (first | exact At.here | apply At.there))) ?_)))⟩
        · have ez : X6 = X5 := by rw [hX6]; unfold k4W; rw [if_neg hc0, List.append_nil]
          (repeat' (first | (show wpListIn _ _ _ _ _ (_ :: _) _ _; first | (refine wx1 ?_; clear hk a; intro a hk) | (refine wx2 ?_ ?_ <;> (intro hp; clear hk a; intro a hk)) | (refine wx3 ?_; clear hk hS a; intro w b hS a hk) | (refine wx4 ?_; clear hk hS a; intro w hS a hk) | (refine wx5 ?_; clear hk hS a; intro w v hS a hk) | fail) | refine wx0 ?_ | (refine s_end hk ?_; clear hk a; intro a hk) | fail))
          rw [ez]
          exact ⟨hk.sub (by repeat (first | exact trivial | refine ⟨rfl, ?_⟩)), hS.sub (by (repeat (first | exact Sub.nil | exact Sub.refl | refine Sub.cons (by (repeat (first | exact At.here | apply At.there))) ?_)))⟩
      clear hk hS a
      try clear w
      rintro a w ⟨hk, hS⟩
      refine wp_mid (fun a w => ∃ b10, Kn [] 150 a [(1, .pointer (some ⟨b1, 0, none⟩)), (3, .string (gP tag (X6))), (10, .pointer (some ⟨b10, 0, none⟩))] ∧ St w0 [pts b1 [.int .i64 k, .string tag, .string key, .string text, .slice a1 cl.length m1, .slice a2 al.length m2, .slice a3 sl.length m3, .int .i64 e, .int .i64 lv, .int .i64 m, .int .i64 d, .bool p, .bool q, .slice a4 H.length m4] 42, pts b10 [.int .i64 e, .int .i64 lv, .int .i64 m, .int .i64 d, .bool p, .bool q] 39] w) ?_ ?_
      · (repeat' (first | (show wpListIn _ _ _ _ _ (_ :: _) _ _; first | (refine wx1 ?_; clear hk a; intro a hk) | (refine wx2 ?_ ?_ <;> (intro hp; clear hk a; intro a hk)) | (refine wx3 ?_; clear hk hS a; intro w b hS a hk) | (refine wx4 ?_; clear hk hS a; intro w hS a hk) | (refine wx5 ?_; clear hk hS a; intro w v hS a hk) | fail) | refine wx0 ?_ | (refine s_end hk ?_; clear hk a; intro a hk) | fail))
        exact ⟨b, hk.sub (by repeat (first | exact trivial | refine ⟨rfl, ?_⟩)), hS.sub (by (repeat (first | exact Sub.nil | exact Sub.refl | refine Sub.cons (by (repeat (first | exact At.here | apply At.there))) ?_)))⟩
      clear hk hS a
      try clear w
      rintro a w ⟨b10, hk, hS⟩
      refine wp_mid (fun a w => Kn [] 150 a [(1, .pointer (some ⟨b1, 0, none⟩)), (3, .string (gP tag (X7))), (10, .pointer (some ⟨b10, 0, none⟩))] ∧ St w0 [pts b1 [.int .i64 k, .string tag, .string key, .string text, .slice a1 cl.length m1, .slice a2 al.length m2, .slice a3 sl.length m3, .int .i64 e, .int .i64 lv, .int .i64 m, .int .i64 d, .bool p, .bool q, .slice a4 H.length m4] 42, pts b10 [.int .i64 e, .int .i64 lv, .int .i64 m, .int .i64 d, .bool p, .bool q] 39] w) ?_ ?_
      · have hgj := hg X6 q6
        have hz64 : i64R e := h6.1
        have hzs := itoR_size hz64
        by_cases hc0 : e = 0
        · have ez : X7 = X6 := by rw [hX7]; unfold durW; rw [if_pos hc0, List.append_nil]
          (repeat' (first | (show wpListIn _ _ _ _ _ (_ :: _) _ _; first | (refine wx1 ?_; clear hk a; intro a hk) | (refine wx2 ?_ ?_ <;> (intro hp; clear hk a; intro a hk)) | (refine wx3 ?_; clear hk hS a; intro w b hS a hk) | (refine wx4 ?_; clear hk hS a; intro w hS a hk) | (refine wx5 ?_; clear hk hS a; intro w v hS a hk) | fail) | refine wx0 ?_ | (refine s_end hk ?_; clear hk a; intro a hk) | fail))
          rw [ez]
          exact ⟨hk.sub (by repeat (first | exact trivial | refine ⟨rfl, ?_⟩)), hS.sub (by (repeat (first | exact Sub.nil | exact Sub.refl | refine Sub.cons (by (repeat (first | exact At.here | apply At.there))) ?_)))⟩
        · have ez : X7 = X6 ++ [wEnter ++ ⟨#[61]⟩ ++ itoS e] := by rw [hX7]; unfold durW; rw [if_neg hc0]
          (repeat' (first | (show wpListIn _ _ _ _ _ (_ :: _) _ _; first | (refine wx1 ?_; clear hk a; intro a hk) | (refine wx2 ?_ ?_ <;> (intro hp; clear hk a; intro a hk)) | (refine wx3 ?_; clear hk hS a; intro w b hS a hk) | (refine wx4 ?_; clear hk hS a; intro w hS a hk) | (refine wx5 ?_; clear hk hS a; intro w v hS a hk) | fail) | refine wx0 ?_ | (refine s_end hk ?_; clear hk a; intro a hk) | fail))
          refine sg hk (g_callO hk (hf := by kernel_rfl) (hc := itoa_any e hz64.1 hz64.2 _ (ht.mono hS.below)) (h := ?_)); clear hk a; rintro _ w ⟨rfl, hS1⟩ a hk; replace hS := hS.call0 hS1; clear hS1
          refine sg hk (g_cat (s := ⟨#[32, 33, 101, 110, 116, 101, 114, 61]⟩) (r := itoS e) hk ?_ (hl := by have : (⟨#[32, 33, 101, 110, 116, 101, 114, 61]⟩ : ByteArray).size ≤ 100 := (by decide); simp only [maxLen]; omega)); clear hk a; intro a hk
          refine sg hk (g_cat (s := gP tag X6) (r := ⟨#[32, 33, 101, 110, 116, 101, 114, 61]⟩ ++ itoS e) hk ?_ (hl := by have : (⟨#[32, 33, 101, 110, 116, 101, 114, 61]⟩ : ByteArray).size ≤ 100 := (by decide); simp only [ByteArray.size_append, maxLen]; omega)); clear hk a; intro a hk
          rw [show (⟨#[32, 33, 101, 110, 116, 101, 114, 61]⟩ : ByteArray) ++ itoS e = ⟨#[32]⟩ ++ (wEnter ++ ⟨#[61]⟩ ++ itoS e) from by rw [show (⟨#[32, 33, 101, 110, 116, 101, 114, 61]⟩ : ByteArray) = ⟨#[32]⟩ ++ (wEnter ++ ⟨#[61]⟩) from rfl, b_assoc], gP_snoc, ← ez] at hk
          (repeat' (first | (show wpListIn _ _ _ _ _ (_ :: _) _ _; first | (refine wx1 ?_; clear hk a; intro a hk) | (refine wx2 ?_ ?_ <;> (intro hp; clear hk a; intro a hk)) | (refine wx3 ?_; clear hk hS a; intro w b hS a hk) | (refine wx4 ?_; clear hk hS a; intro w hS a hk) | (refine wx5 ?_; clear hk hS a; intro w v hS a hk) | fail) | refine wx0 ?_ | (refine s_end hk ?_; clear hk a; intro a hk) | fail))
          exact ⟨hk.sub (by repeat (first | exact trivial | refine ⟨rfl, ?_⟩)), hS.sub (by (repeat (first | exact Sub.nil | exact Sub.refl | refine Sub.cons (by (repeat (first | exact At.here | apply At.there))) ?_)))⟩
      clear hk hS a
      try clear w
      rintro a w ⟨hk, hS⟩
      refine wp_mid (fun a w => Kn [] 150 a [(1, .pointer (some ⟨b1, 0, none⟩)), (3, .string (gP tag (X8))), (10, .pointer (some ⟨b10, 0, none⟩))] ∧ St w0 [pts b1 [.int .i64 k, .string tag, .string key, .string text, .slice a1 cl.length m1, .slice a2 al.length m2, .slice a3 sl.length m3, .int .i64 e, .int .i64 lv, .int .i64 m, .int .i64 d, .bool p, .bool q, .slice a4 H.length m4] 42, pts b10 [.int .i64 e, .int .i64 lv, .int .i64 m, .int .i64 d, .bool p, .bool q] 39] w) ?_ ?_
      · have hgj := hg X7 q7
        have hz64 : i64R lv := h6.2.1
        have hzs := itoR_size hz64
        by_cases hc0 : lv = 0
        · have ez : X8 = X7 := by rw [hX8]; unfold durW; rw [if_pos hc0, List.append_nil]
          (repeat' (first | (show wpListIn _ _ _ _ _ (_ :: _) _ _; first | (refine wx1 ?_; clear hk a; intro a hk) | (refine wx2 ?_ ?_ <;> (intro hp; clear hk a; intro a hk)) | (refine wx3 ?_; clear hk hS a; intro w b hS a hk) | (refine wx4 ?_; clear hk hS a; intro w hS a hk) | (refine wx5 ?_; clear hk hS a; intro w v hS a hk) | fail) | refine wx0 ?_ | (refine s_end hk ?_; clear hk a; intro a hk) | fail))
          rw [ez]
          exact ⟨hk.sub (by repeat (first | exact trivial | refine ⟨rfl, ?_⟩)), hS.sub (by (repeat (first | exact Sub.nil | exact Sub.refl | refine Sub.cons (by (repeat (first | exact At.here | apply At.there))) ?_)))⟩
        · have ez : X8 = X7 ++ [wLeave ++ ⟨#[61]⟩ ++ itoS lv] := by rw [hX8]; unfold durW; rw [if_neg hc0]
          (repeat' (first | (show wpListIn _ _ _ _ _ (_ :: _) _ _; first | (refine wx1 ?_; clear hk a; intro a hk) | (refine wx2 ?_ ?_ <;> (intro hp; clear hk a; intro a hk)) | (refine wx3 ?_; clear hk hS a; intro w b hS a hk) | (refine wx4 ?_; clear hk hS a; intro w hS a hk) | (refine wx5 ?_; clear hk hS a; intro w v hS a hk) | fail) | refine wx0 ?_ | (refine s_end hk ?_; clear hk a; intro a hk) | fail))
          refine sg hk (g_callO hk (hf := by kernel_rfl) (hc := itoa_any lv hz64.1 hz64.2 _ (ht.mono hS.below)) (h := ?_)); clear hk a; rintro _ w ⟨rfl, hS1⟩ a hk; replace hS := hS.call0 hS1; clear hS1
          refine sg hk (g_cat (s := ⟨#[32, 33, 108, 101, 97, 118, 101, 61]⟩) (r := itoS lv) hk ?_ (hl := by have : (⟨#[32, 33, 108, 101, 97, 118, 101, 61]⟩ : ByteArray).size ≤ 100 := (by decide); simp only [maxLen]; omega)); clear hk a; intro a hk
          refine sg hk (g_cat (s := gP tag X7) (r := ⟨#[32, 33, 108, 101, 97, 118, 101, 61]⟩ ++ itoS lv) hk ?_ (hl := by have : (⟨#[32, 33, 108, 101, 97, 118, 101, 61]⟩ : ByteArray).size ≤ 100 := (by decide); simp only [ByteArray.size_append, maxLen]; omega)); clear hk a; intro a hk
          rw [show (⟨#[32, 33, 108, 101, 97, 118, 101, 61]⟩ : ByteArray) ++ itoS lv = ⟨#[32]⟩ ++ (wLeave ++ ⟨#[61]⟩ ++ itoS lv) from by rw [show (⟨#[32, 33, 108, 101, 97, 118, 101, 61]⟩ : ByteArray) = ⟨#[32]⟩ ++ (wLeave ++ ⟨#[61]⟩) from rfl, b_assoc], gP_snoc, ← ez] at hk
          (repeat' (first | (show wpListIn _ _ _ _ _ (_ :: _) _ _; first | (refine wx1 ?_; clear hk a; intro a hk) | (refine wx2 ?_ ?_ <;> (intro hp; clear hk a; intro a hk)) | (refine wx3 ?_; clear hk hS a; intro w b hS a hk) | (refine wx4 ?_; clear hk hS a; intro w hS a hk) | (refine wx5 ?_; clear hk hS a; intro w v hS a hk) | fail) | refine wx0 ?_ | (refine s_end hk ?_; clear hk a; intro a hk) | fail))
          exact ⟨hk.sub (by repeat (first | exact trivial | refine ⟨rfl, ?_⟩)), hS.sub (by (repeat (first | exact Sub.nil | exact Sub.refl | refine Sub.cons (by (repeat (first | exact At.here | apply At.there))) ?_)))⟩
      clear hk hS a
      try clear w
      rintro a w ⟨hk, hS⟩
      refine wp_mid (fun a w => Kn [] 150 a [(1, .pointer (some ⟨b1, 0, none⟩)), (3, .string (gP tag (X9))), (10, .pointer (some ⟨b10, 0, none⟩))] ∧ St w0 [pts b1 [.int .i64 k, .string tag, .string key, .string text, .slice a1 cl.length m1, .slice a2 al.length m2, .slice a3 sl.length m3, .int .i64 e, .int .i64 lv, .int .i64 m, .int .i64 d, .bool p, .bool q, .slice a4 H.length m4] 42, pts b10 [.int .i64 e, .int .i64 lv, .int .i64 m, .int .i64 d, .bool p, .bool q] 39] w) ?_ ?_
      · have hgj := hg X8 q8
        have hz64 : i64R m := h6.2.2
        have hzs := itoR_size hz64
        by_cases hc0 : m = 0
        · have ez : X9 = X8 := by rw [hX9]; unfold durW; rw [if_pos hc0, List.append_nil]
          (repeat' (first | (show wpListIn _ _ _ _ _ (_ :: _) _ _; first | (refine wx1 ?_; clear hk a; intro a hk) | (refine wx2 ?_ ?_ <;> (intro hp; clear hk a; intro a hk)) | (refine wx3 ?_; clear hk hS a; intro w b hS a hk) | (refine wx4 ?_; clear hk hS a; intro w hS a hk) | (refine wx5 ?_; clear hk hS a; intro w v hS a hk) | fail) | refine wx0 ?_ | (refine s_end hk ?_; clear hk a; intro a hk) | fail))
          rw [ez]
          exact ⟨hk.sub (by repeat (first | exact trivial | refine ⟨rfl, ?_⟩)), hS.sub (by (repeat (first | exact Sub.nil | exact Sub.refl | refine Sub.cons (by (repeat (first | exact At.here | apply At.there))) ?_)))⟩
        · have ez : X9 = X8 ++ [wMove ++ ⟨#[61]⟩ ++ itoS m] := by rw [hX9]; unfold durW; rw [if_neg hc0]
          (repeat' (first | (show wpListIn _ _ _ _ _ (_ :: _) _ _; first | (refine wx1 ?_; clear hk a; intro a hk) | (refine wx2 ?_ ?_ <;> (intro hp; clear hk a; intro a hk)) | (refine wx3 ?_; clear hk hS a; intro w b hS a hk) | (refine wx4 ?_; clear hk hS a; intro w hS a hk) | (refine wx5 ?_; clear hk hS a; intro w v hS a hk) | fail) | refine wx0 ?_ | (refine s_end hk ?_; clear hk a; intro a hk) | fail))
          refine sg hk (g_callO hk (hf := by kernel_rfl) (hc := itoa_any m hz64.1 hz64.2 _ (ht.mono hS.below)) (h := ?_)); clear hk a; rintro _ w ⟨rfl, hS1⟩ a hk; replace hS := hS.call0 hS1; clear hS1
          refine sg hk (g_cat (s := ⟨#[32, 33, 109, 111, 118, 101, 61]⟩) (r := itoS m) hk ?_ (hl := by have : (⟨#[32, 33, 109, 111, 118, 101, 61]⟩ : ByteArray).size ≤ 100 := (by decide); simp only [maxLen]; omega)); clear hk a; intro a hk
          refine sg hk (g_cat (s := gP tag X8) (r := ⟨#[32, 33, 109, 111, 118, 101, 61]⟩ ++ itoS m) hk ?_ (hl := by have : (⟨#[32, 33, 109, 111, 118, 101, 61]⟩ : ByteArray).size ≤ 100 := (by decide); simp only [ByteArray.size_append, maxLen]; omega)); clear hk a; intro a hk
          rw [show (⟨#[32, 33, 109, 111, 118, 101, 61]⟩ : ByteArray) ++ itoS m = ⟨#[32]⟩ ++ (wMove ++ ⟨#[61]⟩ ++ itoS m) from by rw [show (⟨#[32, 33, 109, 111, 118, 101, 61]⟩ : ByteArray) = ⟨#[32]⟩ ++ (wMove ++ ⟨#[61]⟩) from rfl, b_assoc], gP_snoc, ← ez] at hk
          (repeat' (first | (show wpListIn _ _ _ _ _ (_ :: _) _ _; first | (refine wx1 ?_; clear hk a; intro a hk) | (refine wx2 ?_ ?_ <;> (intro hp; clear hk a; intro a hk)) | (refine wx3 ?_; clear hk hS a; intro w b hS a hk) | (refine wx4 ?_; clear hk hS a; intro w hS a hk) | (refine wx5 ?_; clear hk hS a; intro w v hS a hk) | fail) | refine wx0 ?_ | (refine s_end hk ?_; clear hk a; intro a hk) | fail))
          exact ⟨hk.sub (by repeat (first | exact trivial | refine ⟨rfl, ?_⟩)), hS.sub (by (repeat (first | exact Sub.nil | exact Sub.refl | refine Sub.cons (by (repeat (first | exact At.here | apply At.there))) ?_)))⟩
      clear hk hS a
      try clear w
      rintro a w ⟨hk, hS⟩
      refine wp_mid (fun a w => Kn [] 150 a [(1, .pointer (some ⟨b1, 0, none⟩)), (3, .string (gP tag (X10))), (10, .pointer (some ⟨b10, 0, none⟩))] ∧ St w0 [pts b1 [.int .i64 k, .string tag, .string key, .string text, .slice a1 cl.length m1, .slice a2 al.length m2, .slice a3 sl.length m3, .int .i64 e, .int .i64 lv, .int .i64 m, .int .i64 d, .bool p, .bool q, .slice a4 H.length m4] 42, pts b10 [.int .i64 e, .int .i64 lv, .int .i64 m, .int .i64 d, .bool p, .bool q] 39] w) ?_ ?_
      · have hgj := hg X9 q9
        cases p with
        | true =>
          have ez : X10 = X9 ++ [wAppear] := by rw [hX10]; rfl
          (repeat' (first | (show wpListIn _ _ _ _ _ (_ :: _) _ _; first | (refine wx1 ?_; clear hk a; intro a hk) | (refine wx2 ?_ ?_ <;> (intro hp; clear hk a; intro a hk)) | (refine wx3 ?_; clear hk hS a; intro w b hS a hk) | (refine wx4 ?_; clear hk hS a; intro w hS a hk) | (refine wx5 ?_; clear hk hS a; intro w v hS a hk) | fail) | refine wx0 ?_ | (refine s_end hk ?_; clear hk a; intro a hk) | fail))
          refine sg hk (g_cat (s := gP tag X9) (r := ⟨#[32, 33, 97, 112, 112, 101, 97, 114]⟩) hk ?_ (hl := by have : (⟨#[32, 33, 97, 112, 112, 101, 97, 114]⟩ : ByteArray).size ≤ 100 := (by decide); simp only [maxLen]; omega)); clear hk a; intro a hk
          rw [show (⟨#[32, 33, 97, 112, 112, 101, 97, 114]⟩ : ByteArray) = ⟨#[32]⟩ ++ wAppear from rfl, gP_snoc, ← ez] at hk
          (repeat' (first | (show wpListIn _ _ _ _ _ (_ :: _) _ _; first | (refine wx1 ?_; clear hk a; intro a hk) | (refine wx2 ?_ ?_ <;> (intro hp; clear hk a; intro a hk)) | (refine wx3 ?_; clear hk hS a; intro w b hS a hk) | (refine wx4 ?_; clear hk hS a; intro w hS a hk) | (refine wx5 ?_; clear hk hS a; intro w v hS a hk) | fail) | refine wx0 ?_ | (refine s_end hk ?_; clear hk a; intro a hk) | fail))
          exact ⟨hk.sub (by repeat (first | exact trivial | refine ⟨rfl, ?_⟩)), hS.sub (by (repeat (first | exact Sub.nil | exact Sub.refl | refine Sub.cons (by (repeat (first | exact At.here | apply At.there))) ?_)))⟩
        | false =>
          have ez : X10 = X9 := by rw [hX10]; unfold apW; simp
          (repeat' (first | (show wpListIn _ _ _ _ _ (_ :: _) _ _; first | (refine wx1 ?_; clear hk a; intro a hk) | (refine wx2 ?_ ?_ <;> (intro hp; clear hk a; intro a hk)) | (refine wx3 ?_; clear hk hS a; intro w b hS a hk) | (refine wx4 ?_; clear hk hS a; intro w hS a hk) | (refine wx5 ?_; clear hk hS a; intro w v hS a hk) | fail) | refine wx0 ?_ | (refine s_end hk ?_; clear hk a; intro a hk) | fail))
          rw [ez]
          exact ⟨hk.sub (by repeat (first | exact trivial | refine ⟨rfl, ?_⟩)), hS.sub (by (repeat (first | exact Sub.nil | exact Sub.refl | refine Sub.cons (by (repeat (first | exact At.here | apply At.there))) ?_)))⟩
      clear hk hS a
      try clear w
      rintro a w ⟨hk, hS⟩
      refine wp_mid (fun a w => Kn [] 150 a [(1, .pointer (some ⟨b1, 0, none⟩)), (3, .string (gP tag (X11))), (10, .pointer (some ⟨b10, 0, none⟩))] ∧ St w0 [pts b1 [.int .i64 k, .string tag, .string key, .string text, .slice a1 cl.length m1, .slice a2 al.length m2, .slice a3 sl.length m3, .int .i64 e, .int .i64 lv, .int .i64 m, .int .i64 d, .bool p, .bool q, .slice a4 H.length m4] 42, pts b10 [.int .i64 e, .int .i64 lv, .int .i64 m, .int .i64 d, .bool p, .bool q] 39] w) ?_ ?_
      · have hgj := hg X10 q10
        cases q with
        | true =>
          have ez : X11 = X10 ++ [wMoves] := by rw [hX11]; rfl
          (repeat' (first | (show wpListIn _ _ _ _ _ (_ :: _) _ _; first | (refine wx1 ?_; clear hk a; intro a hk) | (refine wx2 ?_ ?_ <;> (intro hp; clear hk a; intro a hk)) | (refine wx3 ?_; clear hk hS a; intro w b hS a hk) | (refine wx4 ?_; clear hk hS a; intro w hS a hk) | (refine wx5 ?_; clear hk hS a; intro w v hS a hk) | fail) | refine wx0 ?_ | (refine s_end hk ?_; clear hk a; intro a hk) | fail))
          refine sg hk (g_cat (s := gP tag X10) (r := ⟨#[32, 33, 109, 111, 118, 101, 115]⟩) hk ?_ (hl := by have : (⟨#[32, 33, 109, 111, 118, 101, 115]⟩ : ByteArray).size ≤ 100 := (by decide); simp only [maxLen]; omega)); clear hk a; intro a hk
          rw [show (⟨#[32, 33, 109, 111, 118, 101, 115]⟩ : ByteArray) = ⟨#[32]⟩ ++ wMoves from rfl, gP_snoc, ← ez] at hk
          (repeat' (first | (show wpListIn _ _ _ _ _ (_ :: _) _ _; first | (refine wx1 ?_; clear hk a; intro a hk) | (refine wx2 ?_ ?_ <;> (intro hp; clear hk a; intro a hk)) | (refine wx3 ?_; clear hk hS a; intro w b hS a hk) | (refine wx4 ?_; clear hk hS a; intro w hS a hk) | (refine wx5 ?_; clear hk hS a; intro w v hS a hk) | fail) | refine wx0 ?_ | (refine s_end hk ?_; clear hk a; intro a hk) | fail))
          exact ⟨hk.sub (by repeat (first | exact trivial | refine ⟨rfl, ?_⟩)), hS.sub (by (repeat (first | exact Sub.nil | exact Sub.refl | refine Sub.cons (by (repeat (first | exact At.here | apply At.there))) ?_)))⟩
        | false =>
          have ez : X11 = X10 := by rw [hX11]; unfold mvW; simp
          (repeat' (first | (show wpListIn _ _ _ _ _ (_ :: _) _ _; first | (refine wx1 ?_; clear hk a; intro a hk) | (refine wx2 ?_ ?_ <;> (intro hp; clear hk a; intro a hk)) | (refine wx3 ?_; clear hk hS a; intro w b hS a hk) | (refine wx4 ?_; clear hk hS a; intro w hS a hk) | (refine wx5 ?_; clear hk hS a; intro w v hS a hk) | fail) | refine wx0 ?_ | (refine s_end hk ?_; clear hk a; intro a hk) | fail))
          rw [ez]
          exact ⟨hk.sub (by repeat (first | exact trivial | refine ⟨rfl, ?_⟩)), hS.sub (by (repeat (first | exact Sub.nil | exact Sub.refl | refine Sub.cons (by (repeat (first | exact At.here | apply At.there))) ?_)))⟩
      clear hk hS a
      try clear w
      rintro a w ⟨hk, hS⟩
      refine wp_mid (fun a w => Kn [] 150 a [(1, .pointer (some ⟨b1, 0, none⟩)), (3, .string (gP tag (X12))), (10, .pointer (some ⟨b10, 0, none⟩))] ∧ St w0 [pts b1 [.int .i64 k, .string tag, .string key, .string text, .slice a1 cl.length m1, .slice a2 al.length m2, .slice a3 sl.length m3, .int .i64 e, .int .i64 lv, .int .i64 m, .int .i64 d, .bool p, .bool q, .slice a4 H.length m4] 42, pts b10 [.int .i64 e, .int .i64 lv, .int .i64 m, .int .i64 d, .bool p, .bool q] 39] w) ?_ ?_
      · have hgj := hg X11 q11
        by_cases hc0 : d = 1
        · have ez : X12 = X11 ++ [wOutIn] := by rw [hX12]; unfold d1W; rw [if_pos hc0]
          (repeat' (first | (show wpListIn _ _ _ _ _ (_ :: _) _ _; first | (refine wx1 ?_; clear hk a; intro a hk) | (refine wx2 ?_ ?_ <;> (intro hp; clear hk a; intro a hk)) | (refine wx3 ?_; clear hk hS a; intro w b hS a hk) | (refine wx4 ?_; clear hk hS a; intro w hS a hk) | (refine wx5 ?_; clear hk hS a; intro w v hS a hk) | fail) | refine wx0 ?_ | (refine s_end hk ?_; clear hk a; intro a hk) | fail))
          refine sg hk (g_cat (s := gP tag X11) (r := ⟨#[32, 33, 111, 117, 116, 45, 105, 110]⟩) hk ?_ (hl := by have : (⟨#[32, 33, 111, 117, 116, 45, 105, 110]⟩ : ByteArray).size ≤ 100 := (by decide); simp only [maxLen]; omega)); clear hk a; intro a hk
          rw [show (⟨#[32, 33, 111, 117, 116, 45, 105, 110]⟩ : ByteArray) = ⟨#[32]⟩ ++ wOutIn from rfl, gP_snoc, ← ez] at hk
          (repeat' (first | (show wpListIn _ _ _ _ _ (_ :: _) _ _; first | (refine wx1 ?_; clear hk a; intro a hk) | (refine wx2 ?_ ?_ <;> (intro hp; clear hk a; intro a hk)) | (refine wx3 ?_; clear hk hS a; intro w b hS a hk) | (refine wx4 ?_; clear hk hS a; intro w hS a hk) | (refine wx5 ?_; clear hk hS a; intro w v hS a hk) | fail) | refine wx0 ?_ | (refine s_end hk ?_; clear hk a; intro a hk) | fail))
          exact ⟨hk.sub (by repeat (first | exact trivial | refine ⟨rfl, ?_⟩)), hS.sub (by (repeat (first | exact Sub.nil | exact Sub.refl | refine Sub.cons (by (repeat (first | exact At.here | apply At.there))) ?_)))⟩
        · have ez : X12 = X11 := by rw [hX12]; unfold d1W; rw [if_neg hc0, List.append_nil]
          (repeat' (first | (show wpListIn _ _ _ _ _ (_ :: _) _ _; first | (refine wx1 ?_; clear hk a; intro a hk) | (refine wx2 ?_ ?_ <;> (intro hp; clear hk a; intro a hk)) | (refine wx3 ?_; clear hk hS a; intro w b hS a hk) | (refine wx4 ?_; clear hk hS a; intro w hS a hk) | (refine wx5 ?_; clear hk hS a; intro w v hS a hk) | fail) | refine wx0 ?_ | (refine s_end hk ?_; clear hk a; intro a hk) | fail))
          rw [ez]
          exact ⟨hk.sub (by repeat (first | exact trivial | refine ⟨rfl, ?_⟩)), hS.sub (by (repeat (first | exact Sub.nil | exact Sub.refl | refine Sub.cons (by (repeat (first | exact At.here | apply At.there))) ?_)))⟩
      clear hk hS a
      try clear w
      rintro a w ⟨hk, hS⟩
      refine wp_mid (fun a w => Kn [] 150 a [(1, .pointer (some ⟨b1, 0, none⟩)), (3, .string (gP tag (X13))), (10, .pointer (some ⟨b10, 0, none⟩))] ∧ St w0 [pts b1 [.int .i64 k, .string tag, .string key, .string text, .slice a1 cl.length m1, .slice a2 al.length m2, .slice a3 sl.length m3, .int .i64 e, .int .i64 lv, .int .i64 m, .int .i64 d, .bool p, .bool q, .slice a4 H.length m4] 42, pts b10 [.int .i64 e, .int .i64 lv, .int .i64 m, .int .i64 d, .bool p, .bool q] 39] w) ?_ ?_
      · have hgj := hg X12 q12
        by_cases hc0 : d = 2
        · have ez : X13 = X12 ++ [wInOut] := by rw [hX13]; unfold d2W; rw [if_pos hc0]
          (repeat' (first | (show wpListIn _ _ _ _ _ (_ :: _) _ _; first | (refine wx1 ?_; clear hk a; intro a hk) | (refine wx2 ?_ ?_ <;> (intro hp; clear hk a; intro a hk)) | (refine wx3 ?_; clear hk hS a; intro w b hS a hk) | (refine wx4 ?_; clear hk hS a; intro w hS a hk) | (refine wx5 ?_; clear hk hS a; intro w v hS a hk) | fail) | refine wx0 ?_ | (refine s_end hk ?_; clear hk a; intro a hk) | fail))
          refine sg hk (g_cat (s := gP tag X12) (r := ⟨#[32, 33, 105, 110, 45, 111, 117, 116]⟩) hk ?_ (hl := by have : (⟨#[32, 33, 105, 110, 45, 111, 117, 116]⟩ : ByteArray).size ≤ 100 := (by decide); simp only [maxLen]; omega)); clear hk a; intro a hk
          rw [show (⟨#[32, 33, 105, 110, 45, 111, 117, 116]⟩ : ByteArray) = ⟨#[32]⟩ ++ wInOut from rfl, gP_snoc, ← ez] at hk
          (repeat' (first | (show wpListIn _ _ _ _ _ (_ :: _) _ _; first | (refine wx1 ?_; clear hk a; intro a hk) | (refine wx2 ?_ ?_ <;> (intro hp; clear hk a; intro a hk)) | (refine wx3 ?_; clear hk hS a; intro w b hS a hk) | (refine wx4 ?_; clear hk hS a; intro w hS a hk) | (refine wx5 ?_; clear hk hS a; intro w v hS a hk) | fail) | refine wx0 ?_ | (refine s_end hk ?_; clear hk a; intro a hk) | fail))
          exact ⟨hk.sub (by repeat (first | exact trivial | refine ⟨rfl, ?_⟩)), hS.sub (by (repeat (first | exact Sub.nil | exact Sub.refl | refine Sub.cons (by (repeat (first | exact At.here | apply At.there))) ?_)))⟩
        · have ez : X13 = X12 := by rw [hX13]; unfold d2W; rw [if_neg hc0, List.append_nil]
          (repeat' (first | (show wpListIn _ _ _ _ _ (_ :: _) _ _; first | (refine wx1 ?_; clear hk a; intro a hk) | (refine wx2 ?_ ?_ <;> (intro hp; clear hk a; intro a hk)) | (refine wx3 ?_; clear hk hS a; intro w b hS a hk) | (refine wx4 ?_; clear hk hS a; intro w hS a hk) | (refine wx5 ?_; clear hk hS a; intro w v hS a hk) | fail) | refine wx0 ?_ | (refine s_end hk ?_; clear hk a; intro a hk) | fail))
          rw [ez]
          exact ⟨hk.sub (by repeat (first | exact trivial | refine ⟨rfl, ?_⟩)), hS.sub (by (repeat (first | exact Sub.nil | exact Sub.refl | refine Sub.cons (by (repeat (first | exact At.here | apply At.there))) ?_)))⟩
      clear hk hS a
      try clear w
      rintro a w ⟨hk, hS⟩
      refine wp_mid (fun a w => Kn [] 150 a [(3, .string (gP tag XT))] ∧ St w0 [] w) ?_ ?_
      · have c' := hS.rdT c4
        (repeat' (first | (show wpListIn _ _ _ _ _ (_ :: _) _ _; first | (refine wx1 ?_; clear hk a; intro a hk) | (refine wx2 ?_ ?_ <;> (intro hp; clear hk a; intro a hk)) | (refine wx3 ?_; clear hk hS a; intro w b hS a hk) | (refine wx4 ?_; clear hk hS a; intro w hS a hk) | (refine wx5 ?_; clear hk hS a; intro w v hS a hk) | fail) | refine wx0 ?_ | (refine s_end hk ?_; clear hk a; intro a hk) | fail))
        have ez : gP tag X13 = gP tag (X13 ++ prnL (kids.take 0)) := by rw [List.take_zero, prnL, List.append_nil]
        rw [ez] at hk
        replace hk := Kn.kp [3, 136, 137, 138] hk
        refine wp_for H.length (fun i _ => [(3, .string (gP tag (X13 ++ prnL (kids.take i)))), (138, .int .i64 (i : Int))]) (fun _ _ => []) (fun _ _ => True) () hk (by repeat (first | exact trivial | refine ⟨rfl, ?_⟩)) (hS.sub (by (repeat (first | exact Sub.nil | exact Sub.refl | refine Sub.cons (by (repeat (first | exact At.here | apply At.there))) ?_)))) trivial ?_
        clear hk hS a c' ez
        rintro i - a w hi hk hS -
        have c' := hS.rdT c4
        have hgj := hg (X13 ++ prnL (kids.take i)) (by rw [hXT, prnL_map, prnL_map]; exact map_pre X13 prnT kids i)
        by_cases hil : i < H.length
        · obtain ⟨tk, htk⟩ : ∃ t, kids[i]? = some t := ⟨_, List.getElem?_eq_getElem (by omega)⟩
          obtain ⟨hd0, hx⟩ : ∃ x, H[i]? = some x := ⟨_, List.getElem?_eq_getElem hil⟩
          have hTr := hF.2 i tk hd0 htk hx
          have hmk := List.mem_of_getElem? htk
          have hlt : SizeOf.sizeOf tk < n := by have := kid_lt (k := k) (tag := tag) (key := key) (text := text) (cl := cl) (at_ := al) (st := sl) (o := (e, lv, m, d, p, q)) hmk; omega
          have hst : X13 ++ prnL (kids.take (i + 1)) = (X13 ++ prnL (kids.take i)) ++ [prnT tk] := by rw [take_snoc htk, prnL_app, List.append_assoc]; rfl
          have hpz := hpk tk hmk
          generalize X13 ++ prnL (kids.take i) = Y at *
          obtain ⟨k', tag', key', text', ⟨x1, x2, x3⟩, ⟨y1, y2, y3⟩, ⟨z1, z2, z3⟩, ⟨e', lv', m', d', p', q'⟩, ⟨u1, u2, u3⟩⟩ := hd0
          (repeat' (first | (show wpListIn _ _ _ _ _ (_ :: _) _ _; first | (refine wx1 ?_; clear hk a; intro a hk) | (refine wx2 ?_ ?_ <;> (intro hp; clear hk a; intro a hk)) | (refine wx3 ?_; clear hk hS a; intro w b hS a hk) | (refine wx4 ?_; clear hk hS a; intro w hS a hk) | (refine wx5 ?_; clear hk hS a; intro w v hS a hk) | fail) | refine wx0 ?_ | (refine s_end hk ?_; clear hk a; intro a hk) | fail))
          refine sg hk (g_callO hk (hf := by kernel_rfl) (hc := ih tk (k', tag', key', text', ⟨x1, x2, x3⟩, ⟨y1, y2, y3⟩, ⟨z1, z2, z3⟩, (e', lv', m', d', p', q'), ⟨u1, u2, u3⟩) _ hlt (h7 tk hmk) hpz (hS.rdTr hTr) (ht.mono hS.below)) (h := ?_)); clear hk a; rintro _ w ⟨rfl, hS1⟩ a hk; replace hS := hS.call0 hS1; clear hS1
          refine sg hk (g_cat (s := ⟨#[32]⟩) (r := prnT tk) hk ?_ (hl := by simp only [ByteArray.size_append, e2, maxLen]; omega)); clear hk a; intro a hk
          refine sg hk (g_cat (s := gP tag Y) (r := ⟨#[32]⟩ ++ prnT tk) hk ?_ (hl := by simp only [ByteArray.size_append, e2, maxLen]; omega)); clear hk a; intro a hk
          rw [gP_snoc, ← hst] at hk
          (repeat' (first | (show wpListIn _ _ _ _ _ (_ :: _) _ _; first | (refine wx1 ?_; clear hk a; intro a hk) | (refine wx2 ?_ ?_ <;> (intro hp; clear hk a; intro a hk)) | (refine wx3 ?_; clear hk hS a; intro w b hS a hk) | (refine wx4 ?_; clear hk hS a; intro w hS a hk) | (refine wx5 ?_; clear hk hS a; intro w v hS a hk) | fail) | refine wx0 ?_ | (refine s_end hk ?_; clear hk a; intro a hk) | fail))
          exact ⟨hil, (), hk.sd, hS.sub (by (repeat (first | exact Sub.nil | exact Sub.refl | refine Sub.cons (by (repeat (first | exact At.here | apply At.there))) ?_))), trivial⟩
        · have hii : i = kids.length := by omega
          subst hii
          rw [List.take_length, ← hXT] at hk
          (repeat' (first | (show wpListIn _ _ _ _ _ (_ :: _) _ _; first | (refine wx1 ?_; clear hk a; intro a hk) | (refine wx2 ?_ ?_ <;> (intro hp; clear hk a; intro a hk)) | (refine wx3 ?_; clear hk hS a; intro w b hS a hk) | (refine wx4 ?_; clear hk hS a; intro w hS a hk) | (refine wx5 ?_; clear hk hS a; intro w v hS a hk) | fail) | refine wx0 ?_ | (refine s_end hk ?_; clear hk a; intro a hk) | fail))
          exact ⟨hk.sub (by repeat (first | exact trivial | refine ⟨rfl, ?_⟩)), hS.sub (by (repeat (first | exact Sub.nil | exact Sub.refl | refine Sub.cons (by (repeat (first | exact At.here | apply At.there))) ?_)))⟩
      clear hk hS a
      try clear w
      rintro a w ⟨hk, hS⟩
      have hgj := hg XT (List.prefix_rfl)
      (repeat' (first | (show wpListIn _ _ _ _ _ (_ :: _) _ _; first | (refine wx1 ?_; clear hk a; intro a hk) | (refine wx2 ?_ ?_ <;> (intro hp; clear hk a; intro a hk)) | (refine wx3 ?_; clear hk hS a; intro w b hS a hk) | (refine wx4 ?_; clear hk hS a; intro w hS a hk) | (refine wx5 ?_; clear hk hS a; intro w v hS a hk) | fail) | refine wx0 ?_ | (refine s_end hk ?_; clear hk a; intro a hk) | fail))
      refine sg hk (g_cat (s := gP tag XT) (r := ⟨#[41]⟩) hk ?_ (hl := by simp only [maxLen]; omega)); clear hk a; intro a hk
      (repeat' (first | (show wpListIn _ _ _ _ _ (_ :: _) _ _; first | (refine wx1 ?_; clear hk a; intro a hk) | (refine wx2 ?_ ?_ <;> (intro hp; clear hk a; intro a hk)) | (refine wx3 ?_; clear hk hS a; intro w b hS a hk) | (refine wx4 ?_; clear hk hS a; intro w hS a hk) | (refine wx5 ?_; clear hk hS a; intro w v hS a hk) | fail) | refine wx0 ?_ | (refine s_end hk ?_; clear hk a; intro a hk) | fail))
      exact done1 hk (h := ⟨rfl, hS.nil⟩)
end Go.Proofs.YtipdgobplfkipaaGreatDoor
