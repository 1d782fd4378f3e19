/- Layer 19: the document's table, and rows of hooks. Maps whose keys are structs of plain parts. Layer 19: logs: taken over with their keys cut. Layer 19: what is told of one kid, and whether a log may be. Layer 2: digits and the numbers that they are; which texts may be what: in plain words. Rows of one's own at known places: parts of them, copies into them, room, and whether two lie apart. Rows of one's own: cleared in part. -/
import Derived.Test.YteoedhkppmbkoaaDoorK08
import Derived.Test.YteoedhkppmbkoaaDoorK06
import Derived.Test.YteoedhkppmbkoaaDoorK04
import Derived.Lib.ItoaNum
import Derived.Lib.Overlaps
import Derived.Lib.AppendZerosOnto
namespace Go.Proofs.YteoedhkppmbkoaaDoor
open Go.RowKit
set_option maxRecDepth 100000
attribute [local irreducible] Go.Code.wpIn Go.wpListIn Go.Calls Gives Go.Exit.then Go.Exit.inBlock Done ObxE

def runF : Int → List Int → Int
  | s, [] => s
  | s, h :: l => if nextF s h = -1 then -1 else runF (nextF s h) l
theorem next_range (s h : Int) : -1 ≤ nextF s h ∧ nextF s h ≤ 6 ∧ nextF s h ≠ 0 := by
  unfold nextF; (repeat' split) <;> omega
theorem runF_stop {s : Int} {l : List Int} {i : Nat} {h : Int} (hi : l[i]? = some h) (h1 : runF s (l.take i) ≠ -1) : runF s (l.take (i + 1)) = nextF (runF s (l.take i)) h := by
  induction l generalizing s i with
  | nil => simp at hi
  | cons x l ih =>
    cases i with
    | zero =>
      simp at hi; subst hi
      simp only [List.take_zero, List.take_succ_cons, runF]
      split
      · rename_i e; rw [e]
      · rfl
    | succ i =>
      simp only [List.take_succ_cons, runF] at h1 ⊢
      split
      · rename_i e; rw [if_pos e] at h1; exact absurd rfl h1
      · rename_i e
        rw [if_neg e] at h1
        exact ih (by simpa using hi) h1
theorem runF_dead {s : Int} {l : List Int} {i : Nat} (h : runF s (l.take i) = -1) (hs : s ≠ -1) : runF s l = -1 := by
  induction l generalizing s i with
  | nil => simp [runF] at h; exact absurd h hs
  | cons x l ih =>
    cases i with
    | zero => simp [runF] at h; exact absurd h hs
    | succ i =>
      simp only [List.take_succ_cons, runF] at h ⊢
      split
      · rfl
      · rename_i e; rw [if_neg e] at h; exact ih h e

theorem runF_range (s : Int) (l : List Int) (hs : -1 ≤ s) : -1 ≤ runF s l := by
  induction l generalizing s with
  | nil => exact hs
  | cons x l ih =>
    simp only [runF]
    split
    · omega
    · exact ih _ (next_range s x).1
theorem run_any (l : List Int) (va : Value) (w0 : World) (ha : SlT l va w0) (hl : l.length ≤ 1000) : Calls Tryd.prog 16 #[va] w0 (Ret fun v w => v = .int .i64 (runF 0 l) ∧ St w0 [] w) := by
  refine enter Tryd.func16 rfl Tryd.ntmps16 rfl (fun a hk => ?_); have hS := St.refl w0
  (repeat' (first | (show wpListIn _ _ _ _ _ (_ :: _) _ _; first | (refine wx1 ?_; clear hk a; intro a hk) | (refine wx2 ?_ ?_ <;> (intro hp; clear hk a; intro a hk)) | (refine wx3 ?_; clear hk hS a; intro w b hS a hk) | (refine wx4 ?_; clear hk hS a; intro w hS a hk) | (refine wx5 ?_; clear hk hS a; intro w v hS a hk) | fail) | refine wx0 ?_ | (refine s_end hk ?_; clear hk a; intro a hk) | fail))
  replace hk := Kn.kp [3, 6, 7, 8] hk
  refine wp_for l.length (fun i _ => [(3, .int .i64 (runF 0 (l.take i))), (8, .int .i64 (i : Int))]) (fun _ _ => []) (fun i _ => runF 0 (l.take i) ≠ -1) () hk (by repeat (first | exact trivial | refine ⟨rfl, ?_⟩)) hS (by simp [runF]) ?_
  clear hk hS a
  rintro i _ a w hi hk hS hF
  (repeat' (first | (show wpListIn _ _ _ _ _ (_ :: _) _ _; first | (refine wx1 ?_; clear hk a; intro a hk) | (refine wx2 ?_ ?_ <;> (intro hp; clear hk a; intro a hk)) | (refine wx3 ?_; clear hk hS a; intro w b hS a hk) | (refine wx4 ?_; clear hk hS a; intro w hS a hk) | (refine wx5 ?_; clear hk hS a; intro w v hS a hk) | fail) | refine wx0 ?_ | (refine s_end hk ?_; clear hk a; intro a hk) | fail))
  · have hil : i < l.length := by omega
    refine sg hk (g_callO hk (hf := by kernel_rfl) (hc := next_any _ _ _) (h := ?_)); clear hk a; rintro _ w ⟨rfl, hS1⟩ a hk; replace hS := hS.call0 hS1; clear hS1
    rw [← runF_stop (List.getElem?_eq_getElem hil) hF] at hk
    (repeat' (first | (show wpListIn _ _ _ _ _ (_ :: _) _ _; first | (refine wx1 ?_; clear hk a; intro a hk) | (refine wx2 ?_ ?_ <;> (intro hp; clear hk a; intro a hk)) | (refine wx3 ?_; clear hk hS a; intro w b hS a hk) | (refine wx4 ?_; clear hk hS a; intro w hS a hk) | (refine wx5 ?_; clear hk hS a; intro w v hS a hk) | fail) | refine wx0 ?_ | (refine s_end hk ?_; clear hk a; intro a hk) | fail))
    · refine done1 hk (h := ⟨?_, hS.nil⟩)
      rw [runF_dead (i := i + 1) (by assumption) (by omega)]
    · exact ⟨hil, (), hk.sd, hS, by assumption⟩
  · have : i = l.length := by omega
    subst this
    rw [List.take_of_length_le (Nat.le_refl _)] at hk
    exact done1 hk (h := ⟨rfl, hS.nil⟩)

def tab : List (Int × Int × Int) := [(0, 1, 1), (0, 5, 4), (1, 2, 2), (2, 3, 3), (2, 4, 3), (3, 5, 4), (4, 6, 5), (5, 7, 6), (5, 8, 6), (6, 1, 1)]
theorem tab_yes : ∀ t ∈ tab, nextF t.1 t.2.1 = t.2.2 := by decide +kernel
theorem tab_no {s h : Int} (hn : ∀ t ∈ tab, ¬ (t.1 = s ∧ t.2.1 = h)) : nextF s h = -1 := by
  have no : ∀ a b c : Int, (a, b, c) ∈ tab → ¬ (s = a ∧ h = b) := fun a b c hm e => hn _ hm ⟨e.1.symm, e.2.symm⟩
  unfold nextF
  rw [if_neg (not_or.2 ⟨no 0 1 1 (by decide), no 6 1 1 (by decide)⟩), if_neg (no 1 2 2 (by decide)), if_neg (not_or.2 ⟨no 2 3 3 (by decide), no 2 4 3 (by decide)⟩), if_neg (not_or.2 ⟨no 0 5 4 (by decide), no 3 5 4 (by decide)⟩), if_neg (no 4 6 5 (by decide)), if_neg (not_or.2 ⟨no 5 7 6 (by decide), no 5 8 6 (by decide)⟩)]
def row3 (t : Int × Int × Int) : List Int := [t.1, t.2.1, t.2.2]

set_option maxHeartbeats 1000000 in
theorem refNext_any (s h : Int) (w0 : World) : Calls Tryd.prog 13 #[.int .i64 s, .int .i64 h] w0 (Ret fun v w => v = .int .i64 (nextF s h) ∧ St w0 [] w) := by
  refine enter Tryd.func13 rfl Tryd.ntmps13 rfl (fun a hk => ?_); have hS := St.refl w0
  (repeat' (first | (show wpListIn _ _ _ _ _ (_ :: _) _ _; first | (refine wx1 ?_; clear hk a; intro a hk) | (refine wx2 ?_ ?_ <;> (intro hp; clear hk a; intro a hk)) | (refine wx3 ?_; clear hk hS a; intro w b hS a hk) | (refine wx4 ?_; clear hk hS a; intro w hS a hk) | (refine wx5 ?_; clear hk hS a; intro w v hS a hk) | fail) | refine wx0 ?_ | (refine s_end hk ?_; clear hk a; intro a hk) | fail))
  refine sg hk (g_bsT (xs := row3 (0, 1, 1)) (m := 2) hk hS ?_ (hT := eT rfl) (hE := zT rfl) (hz := oT rfl)); clear hk hS a; intro w u0 hS a hk
  refine sg hk (g_bsT (xs := row3 (0, 5, 4)) (m := 2) hk hS ?_ (hT := eT rfl) (hE := zT rfl) (hz := oT rfl)); clear hk hS a; intro w u1 hS a hk
  refine sg hk (g_bsT (xs := row3 (1, 2, 2)) (m := 2) hk hS ?_ (hT := eT rfl) (hE := zT rfl) (hz := oT rfl)); clear hk hS a; intro w u2 hS a hk
  refine sg hk (g_bsT (xs := row3 (2, 3, 3)) (m := 2) hk hS ?_ (hT := eT rfl) (hE := zT rfl) (hz := oT rfl)); clear hk hS a; intro w u3 hS a hk
  refine sg hk (g_bsT (xs := row3 (2, 4, 3)) (m := 2) hk hS ?_ (hT := eT rfl) (hE := zT rfl) (hz := oT rfl)); clear hk hS a; intro w u4 hS a hk
  refine sg hk (g_bsT (xs := row3 (3, 5, 4)) (m := 2) hk hS ?_ (hT := eT rfl) (hE := zT rfl) (hz := oT rfl)); clear hk hS a; intro w u5 hS a hk
  refine sg hk (g_bsT (xs := row3 (4, 6, 5)) (m := 2) hk hS ?_ (hT := eT rfl) (hE := zT rfl) (hz := oT rfl)); clear hk hS a; intro w u6 hS a hk
  refine sg hk (g_bsT (xs := row3 (5, 7, 6)) (m := 2) hk hS ?_ (hT := eT rfl) (hE := zT rfl) (hz := oT rfl)); clear hk hS a; intro w u7 hS a hk
  refine sg hk (g_bsT (xs := row3 (5, 8, 6)) (m := 2) hk hS ?_ (hT := eT rfl) (hE := zT rfl) (hz := oT rfl)); clear hk hS a; intro w u8 hS a hk
  refine sg hk (g_bsT (xs := row3 (6, 1, 1)) (m := 2) hk hS ?_ (hT := eT rfl) (hE := zT rfl) (hz := oT rfl)); clear hk hS a; intro w u9 hS a hk
  obtain ⟨p0, c0, e0, _⟩ := (OwT.rd (hS.rd (A := OwT 3 (row3 (0, 1, 1)) u0) (by (repeat (first | exact At.here | apply At.there))))).shape
  obtain ⟨p1, c1, e1, _⟩ := (OwT.rd (hS.rd (A := OwT 3 (row3 (0, 5, 4)) u1) (by (repeat (first | exact At.here | apply At.there))))).shape
  obtain ⟨p2, c2, e2, _⟩ := (OwT.rd (hS.rd (A := OwT 3 (row3 (1, 2, 2)) u2) (by (repeat (first | exact At.here | apply At.there))))).shape
  obtain ⟨p3, c3, e3, _⟩ := (OwT.rd (hS.rd (A := OwT 3 (row3 (2, 3, 3)) u3) (by (repeat (first | exact At.here | apply At.there))))).shape
  obtain ⟨p4, c4, e4, _⟩ := (OwT.rd (hS.rd (A := OwT 3 (row3 (2, 4, 3)) u4) (by (repeat (first | exact At.here | apply At.there))))).shape
  obtain ⟨p5, c5, e5, _⟩ := (OwT.rd (hS.rd (A := OwT 3 (row3 (3, 5, 4)) u5) (by (repeat (first | exact At.here | apply At.there))))).shape
  obtain ⟨p6, c6, e6, _⟩ := (OwT.rd (hS.rd (A := OwT 3 (row3 (4, 6, 5)) u6) (by (repeat (first | exact At.here | apply At.there))))).shape
  obtain ⟨p7, c7, e7, _⟩ := (OwT.rd (hS.rd (A := OwT 3 (row3 (5, 7, 6)) u7) (by (repeat (first | exact At.here | apply At.there))))).shape
  obtain ⟨p8, c8, e8, _⟩ := (OwT.rd (hS.rd (A := OwT 3 (row3 (5, 8, 6)) u8) (by (repeat (first | exact At.here | apply At.there))))).shape
  obtain ⟨p9, c9, e9, _⟩ := (OwT.rd (hS.rd (A := OwT 3 (row3 (6, 1, 1)) u9) (by (repeat (first | exact At.here | apply At.there))))).shape
  subst e0 e1 e2 e3 e4 e5 e6 e7 e8 e9
  refine sg hk (g_bsT (xs := [(⟨p0, 3, c0⟩ : Hd), (⟨p1, 3, c1⟩ : Hd), (⟨p2, 3, c2⟩ : Hd), (⟨p3, 3, c3⟩ : Hd), (⟨p4, 3, c4⟩ : Hd), (⟨p5, 3, c5⟩ : Hd), (⟨p6, 3, c6⟩ : Hd), (⟨p7, 3, c7⟩ : Hd), (⟨p8, 3, c8⟩ : Hd), (⟨p9, 3, c9⟩ : Hd)]) (m := 9) hk hS ?_ (hT := eT rfl) (hE := zT rfl) (hz := oT rfl)); clear hk hS a; intro w vt hS a hk
  have hR : ∀ (i : Nat) (h : Hd) (t : Int × Int × Int), [(⟨p0, 3, c0⟩ : Hd), (⟨p1, 3, c1⟩ : Hd), (⟨p2, 3, c2⟩ : Hd), (⟨p3, 3, c3⟩ : Hd), (⟨p4, 3, c4⟩ : Hd), (⟨p5, 3, c5⟩ : Hd), (⟨p6, 3, c6⟩ : Hd), (⟨p7, 3, c7⟩ : Hd), (⟨p8, 3, c8⟩ : Hd), (⟨p9, 3, c9⟩ : Hd)][i]? = some h → tab[i]? = some t → SlT (row3 t) (Hd.v h) w := by
    intro i h t h1 h2
    match i with
    | 0 => cases h1; cases h2; exact OwT.rd (hS.rd (A := OwT 3 (row3 (0, 1, 1)) (.slice p0 3 c0)) (by (repeat (first | exact At.here | apply At.there))))
    | 1 => cases h1; cases h2; exact OwT.rd (hS.rd (A := OwT 3 (row3 (0, 5, 4)) (.slice p1 3 c1)) (by (repeat (first | exact At.here | apply At.there))))
    | 2 => cases h1; cases h2; exact OwT.rd (hS.rd (A := OwT 3 (row3 (1, 2, 2)) (.slice p2 3 c2)) (by (repeat (first | exact At.here | apply At.there))))
    | 3 => cases h1; cases h2; exact OwT.rd (hS.rd (A := OwT 3 (row3 (2, 3, 3)) (.slice p3 3 c3)) (by (repeat (first | exact At.here | apply At.there))))
    | 4 => cases h1; cases h2; exact OwT.rd (hS.rd (A := OwT 3 (row3 (2, 4, 3)) (.slice p4 3 c4)) (by (repeat (first | exact At.here | apply At.there))))
    | 5 => cases h1; cases h2; exact OwT.rd (hS.rd (A := OwT 3 (row3 (3, 5, 4)) (.slice p5 3 c5)) (by (repeat (first | exact At.here | apply At.there))))
    | 6 => cases h1; cases h2; exact OwT.rd (hS.rd (A := OwT 3 (row3 (4, 6, 5)) (.slice p6 3 c6)) (by (repeat (first | exact At.here | apply At.there))))
    | 7 => cases h1; cases h2; exact OwT.rd (hS.rd (A := OwT 3 (row3 (5, 7, 6)) (.slice p7 3 c7)) (by (repeat (first | exact At.here | apply At.there))))
    | 8 => cases h1; cases h2; exact OwT.rd (hS.rd (A := OwT 3 (row3 (5, 8, 6)) (.slice p8 3 c8)) (by (repeat (first | exact At.here | apply At.there))))
    | 9 => cases h1; cases h2; exact OwT.rd (hS.rd (A := OwT 3 (row3 (6, 1, 1)) (.slice p9 3 c9)) (by (repeat (first | exact At.here | apply At.there))))
    | n + 10 => simp at h1
  have hvt : SlT [(⟨p0, 3, c0⟩ : Hd), (⟨p1, 3, c1⟩ : Hd), (⟨p2, 3, c2⟩ : Hd), (⟨p3, 3, c3⟩ : Hd), (⟨p4, 3, c4⟩ : Hd), (⟨p5, 3, c5⟩ : Hd), (⟨p6, 3, c6⟩ : Hd), (⟨p7, 3, c7⟩ : Hd), (⟨p8, 3, c8⟩ : Hd), (⟨p9, 3, c9⟩ : Hd)] vt w := OwT.rd (hS.rd At.here)
  have hlen : ([(⟨p0, 3, c0⟩ : Hd), (⟨p1, 3, c1⟩ : Hd), (⟨p2, 3, c2⟩ : Hd), (⟨p3, 3, c3⟩ : Hd), (⟨p4, 3, c4⟩ : Hd), (⟨p5, 3, c5⟩ : Hd), (⟨p6, 3, c6⟩ : Hd), (⟨p7, 3, c7⟩ : Hd), (⟨p8, 3, c8⟩ : Hd), (⟨p9, 3, c9⟩ : Hd)]).length = 10 := rfl
  have hS0 := hS
  clear hS
  have hS := St.refl w
  generalize [(⟨p0, 3, c0⟩ : Hd), (⟨p1, 3, c1⟩ : Hd), (⟨p2, 3, c2⟩ : Hd), (⟨p3, 3, c3⟩ : Hd), (⟨p4, 3, c4⟩ : Hd), (⟨p5, 3, c5⟩ : Hd), (⟨p6, 3, c6⟩ : Hd), (⟨p7, 3, c7⟩ : Hd), (⟨p8, 3, c8⟩ : Hd), (⟨p9, 3, c9⟩ : Hd)] = hds at hR hvt hlen hS0
  (repeat' (first | (show wpListIn _ _ _ _ _ (_ :: _) _ _; first | (refine wx1 ?_; clear hk a; intro a hk) | (refine wx2 ?_ ?_ <;> (intro hp; clear hk a; intro a hk)) | (refine wx3 ?_; clear hk hS a; intro w b hS a hk) | (refine wx4 ?_; clear hk hS a; intro w hS a hk) | (refine wx5 ?_; clear hk hS a; intro w v hS a hk) | fail) | refine wx0 ?_ | (refine s_end hk ?_; clear hk a; intro a hk) | fail))
  replace hk := Kn.kp [0, 1, 17, 18, 19] hk
  refine wp_for 10 (fun i _ => [(19, .int .i64 (i : Int))]) (fun _ _ => []) (fun i _ => ∀ j t, j < i → tab[j]? = some t → ¬ (t.1 = s ∧ t.2.1 = h)) () (by rw [hlen] at hk; exact hk) (by repeat (first | exact trivial | refine ⟨rfl, ?_⟩)) hS (fun j t hj => by omega) ?_
  clear hk hS a
  rintro i _ a w hi hk hS hF
  by_cases hil : i < 10
  · obtain ⟨t, ht⟩ : ∃ t, tab[i]? = some t := ⟨_, List.getElem?_eq_getElem (by simpa [tab] using hil)⟩
    have hrow := hR i (hds[i]'(by omega)) t (List.getElem?_eq_getElem (by omega)) ht
    have hl3 : (row3 t).length = 3 := rfl
    have hy := tab_yes t (List.mem_of_getElem? ht)
    (repeat' (first | (show wpListIn _ _ _ _ _ (_ :: _) _ _; first | (refine wx1 ?_; clear hk a; intro a hk) | (refine wx2 ?_ ?_ <;> (intro hp; clear hk a; intro a hk)) | (refine wx3 ?_; clear hk hS a; intro w b hS a hk) | (refine wx4 ?_; clear hk hS a; intro w hS a hk) | (refine wx5 ?_; clear hk hS a; intro w v hS a hk) | fail) | refine wx0 ?_ | (refine s_end hk ?_; clear hk a; intro a hk) | fail))
    · have h1 : t.1 = s := by assumption
      have h2 : t.2.1 = h := by assumption
      refine done1 hk (h := ⟨?_, (hS0.call hS).nil⟩)
      rw [h1, h2] at hy
      rw [hy]; rfl
    · have h2 : ¬ t.2.1 = h := by assumption
      refine ⟨hil, (), hk.sd, hS, fun j t' hj ht' => ?_⟩
      by_cases e : j = i
      · subst e; rw [ht] at ht'; cases ht'; exact fun e => h2 e.2
      · exact hF j t' (by omega) ht'
    · have h2 : ¬ t.1 = s := by assumption
      refine ⟨hil, (), hk.sd, hS, fun j t' hj ht' => ?_⟩
      by_cases e : j = i
      · subst e; rw [ht] at ht'; cases ht'; exact fun e => h2 e.1
      · exact hF j t' (by omega) ht'
  · have hin : i = 10 := by omega
    subst hin
    (repeat' (first | (show wpListIn _ _ _ _ _ (_ :: _) _ _; first | (refine wx1 ?_; clear hk a; intro a hk) | (refine wx2 ?_ ?_ <;> (intro hp; clear hk a; intro a hk)) | (refine wx3 ?_; clear hk hS a; intro w b hS a hk) | (refine wx4 ?_; clear hk hS a; intro w hS a hk) | (refine wx5 ?_; clear hk hS a; intro w v hS a hk) | fail) | refine wx0 ?_ | (refine s_end hk ?_; clear hk a; intro a hk) | fail))
    refine done1 hk (h := ⟨?_, (hS0.call hS).nil⟩)
    rw [tab_no]
    intro t ht
    obtain ⟨j, hj⟩ := List.getElem?_of_mem ht
    have : j < 10 := by have := lt_of_get hj; simpa [tab] using this
    exact hF j t this hj

theorem refRun_any (l : List Int) (va : Value) (w0 : World) (ha : SlT l va w0) (hl : l.length ≤ 1000) : Calls Tryd.prog 17 #[va] w0 (Ret fun v w => v = .int .i64 (runF 0 l) ∧ St w0 [] w) := by
  refine enter Tryd.func17 rfl Tryd.ntmps17 rfl (fun a hk => ?_); have hS := St.refl w0
  (repeat' (first | (show wpListIn _ _ _ _ _ (_ :: _) _ _; first | (refine wx1 ?_; clear hk a; intro a hk) | (refine wx2 ?_ ?_ <;> (intro hp; clear hk a; intro a hk)) | (refine wx3 ?_; clear hk hS a; intro w b hS a hk) | (refine wx4 ?_; clear hk hS a; intro w hS a hk) | (refine wx5 ?_; clear hk hS a; intro w v hS a hk) | fail) | refine wx0 ?_ | (refine s_end hk ?_; clear hk a; intro a hk) | fail))
  replace hk := Kn.kp [3, 6, 7, 8] hk
  refine wp_for l.length (fun i _ => [(3, .int .i64 (runF 0 (l.take i))), (8, .int .i64 (i : Int))]) (fun _ _ => []) (fun i _ => True) () hk (by repeat (first | exact trivial | refine ⟨rfl, ?_⟩)) hS trivial ?_
  clear hk hS a
  rintro i _ a w hi hk hS -
  have hr := runF_range 0 (l.take i) (by omega)
  (repeat' (first | (show wpListIn _ _ _ _ _ (_ :: _) _ _; first | (refine wx1 ?_; clear hk a; intro a hk) | (refine wx2 ?_ ?_ <;> (intro hp; clear hk a; intro a hk)) | (refine wx3 ?_; clear hk hS a; intro w b hS a hk) | (refine wx4 ?_; clear hk hS a; intro w hS a hk) | (refine wx5 ?_; clear hk hS a; intro w v hS a hk) | fail) | refine wx0 ?_ | (refine s_end hk ?_; clear hk a; intro a hk) | fail))
  · have hil : i < l.length := by omega
    refine sg hk (g_callO hk (hf := by kernel_rfl) (hc := refNext_any _ _ _) (h := ?_)); clear hk a; rintro _ w ⟨rfl, hS1⟩ a hk; replace hS := hS.call0 hS1; clear hS1
    rw [← runF_stop (List.getElem?_eq_getElem hil) (by omega)] at hk
    (repeat' (first | (show wpListIn _ _ _ _ _ (_ :: _) _ _; first | (refine wx1 ?_; clear hk a; intro a hk) | (refine wx2 ?_ ?_ <;> (intro hp; clear hk a; intro a hk)) | (refine wx3 ?_; clear hk hS a; intro w b hS a hk) | (refine wx4 ?_; clear hk hS a; intro w hS a hk) | (refine wx5 ?_; clear hk hS a; intro w v hS a hk) | fail) | refine wx0 ?_ | (refine s_end hk ?_; clear hk a; intro a hk) | fail))
    exact ⟨hil, (), hk.sd, hS, trivial⟩
  · have hil : i < l.length := by omega
    have e : runF 0 (l.take i) = runF 0 (l.take (i + 1)) := by
      rw [show runF 0 (l.take i) = -1 by omega, runF_dead (l := l.take (i + 1)) (i := i) (by rw [List.take_take, Nat.min_eq_left (by omega)]; omega) (by omega)]
    rw [e] at hk
    exact ⟨hil, (), hk.sd, hS, trivial⟩
  · have : i = l.length := by omega
    subst this
    rw [List.take_of_length_le (Nat.le_refl _)] at hk
    exact done1 hk (h := ⟨rfl, hS.nil⟩)
end Go.Proofs.YteoedhkppmbkoaaDoor
namespace Go.Proofs.YteoedhkppmbkoaaDoor
open Go.RowKit

section
variable {κ : Type} [DecidableEq κ] {P : Program}

theorem findAsking_pos {K : TypeId} {enc : κ → Value} {w : World} (he : ∀ j k, (Op.equal K (enc j) (enc k)).run P w = .ok (decide (j = k)) w) (k : κ) : ∀ (es : List MapEntry) (l : List (κ × Value)) (i : Nat),
    es.map (fun e => (e.key, e.val)) = l.map (fun p => (enc p.1, p.2)) → (Instr.findAsking K (enc k) es i).run P w = .ok (posK k l i) w
  | [], [], _, _ => rfl
  | [], _ :: _, _, h => by simp at h
  | _ :: _, [], _, h => by simp at h
  | e :: es, (k', v) :: l, i, h => by
    simp only [List.map_cons, List.cons.injEq, Prod.mk.injEq] at h
    obtain ⟨⟨h1, h2⟩, h3⟩ := h
    simp only [Instr.findAsking, Sem.run_bind, posK, h1, he k k', Result.andThen_ok]
    by_cases hk : k = k'
    · simp [hk, h2]
    · simp only [hk, decide_false, if_false]
      exact findAsking_pos he k es l (i + 1) h3

theorem keyAgg {K : TypeId} {fs : Array Field} {enc : κ → List Value} {ks : List SK} (hu : P.underlying K = some (.struct fs)) (hf : flatT P 6 K = some ks) (hs : ∀ k, shp ks (enc k) = true)
    (hi : ∀ j k, eqC (enc j) (enc k) = decide (j = k)) (hc : ∀ b k (w : World), (Instr.checkKey b 10000 K (.agg (enc k).toArray)).run P w = .ok () w)
    (hb : ∀ k, Instr.sameBits 10000 (.agg (enc k).toArray) (.agg (enc k).toArray) = true) : KeyT P K (fun k => .agg (enc k).toArray) where
  check := hc
  find := fun k es l w he => by
    have hag : aggOf P K = some true := by simp [aggOf, hu]
    have h1 := findAsking_pos (P := P) (K := K) (w := w) (enc := fun k => .agg (enc k).toArray) (fun j k => by
      have := run_equalF 6 K ks (enc j) (enc k) (.agg (enc j).toArray) (.agg (enc k).toArray) w hf (hs j) (hs k) (by simp [partV, hag]) (by simp [partV, hag]) 9994
      rw [hi] at this
      exact this) k es l 0 he
    cases es with
    | nil =>
      cases l with
      | nil => simp [Instr.findKey, run_underlying hu, Instr.findNow, posK]
      | cons p l => simp at he
    | cons e es =>
      simp only [Instr.findKey, Sem.run_bind, run_underlying hu, Result.andThen_ok, Instr.findNow, Instr.sameNow]
      exact h1
  bits := hb

theorem keyIS {K : TypeId} {f0 f1 : Field} {kk : IntKind} (hu : P.underlying K = some (.struct #[f0, f1])) (h0 : P.underlying f0.type = some (.int kk)) (h1 : P.underlying f1.type = some .string)
    (ho0 : f0.offset = 0) (ho1 : f1.offset = 1) (hf : flatT P 6 K = some [.int kk, .str]) : KeyT P K (fun k : Int × ByteArray => .agg #[.int kk k.1, .string k.2]) := by
  refine keyAgg (enc := fun k : Int × ByteArray => [.int kk k.1, .string k.2]) hu hf (fun k => by simp [shp]) (fun j k => ?_) (fun b k w => ?_) (fun k => ?_)
  · obtain ⟨j1, j2⟩ := j
    obtain ⟨k1, k2⟩ := k
    simp only [eqC, Bool.and_true, Prod.mk.injEq]
    rw [Bool.eq_iff_iff]
    simp [beq_toListBytes, ByteArray.toList_eq]
    intro _
    exact ⟨fun h => ByteArray.ext h, fun h => by rw [h]⟩
  · have a0 : aggOf P f0.type = some false := by simp [aggOf, h0]
    have a1 : aggOf P f1.type = some false := by simp [aggOf, h1]
    have p0 : (part f0.type #[.int kk k.1, .string k.2] f0.offset).run P w = .ok (.int kk k.1) w := by simp [part, aggOf_run a0, ho0]
    have p1 : (part f1.type #[.int kk k.1, .string k.2] f1.offset).run P w = .ok (.string k.2) w := by simp [part, aggOf_run a1, ho1]
    have c0 := checkKey_int h0 b 9998 (.int kk k.1) w
    have c1 := checkKey_str h1 b 9998 (.string k.2) w
    show (Instr.checkKey b (9999 + 1) K (.agg #[.int kk k.1, .string k.2])).run P w = .ok () w
    unfold Instr.checkKey
    simp [run_underlying hu, p0, p1, c0, c1]
  · simp [Instr.sameBits, beq_toListBytes]

end
end Go.Proofs.YteoedhkppmbkoaaDoor
namespace Go.Proofs.YteoedhkppmbkoaaDoor
open Go.RowKit
set_option maxRecDepth 100000
attribute [local irreducible] Go.Code.wpIn Go.wpListIn Go.Calls Gives Go.Exit.then Go.Exit.inBlock Done ObxE

def cutF (s : ByteArray) (n : Nat) : ByteArray := if n < s.size then s.extract 0 n else s

theorem cut_any (s : ByteArray) (n : Nat) (w0 : World) : Calls Tryd.prog 21 #[.string s, .int .i64 (n : Int)] w0 (Ret fun v w => v = .string (cutF s n) ∧ St w0 [] w) := by
  refine enter Tryd.func21 rfl Tryd.ntmps21 rfl (fun a hk => ?_); have hS := St.refl w0
  by_cases hn : n < s.size
  · have hn' : (n : Int) < (s.size : Int) := by omega
    (repeat' (first | (show wpListIn _ _ _ _ _ (_ :: _) _ _; first | (refine wx1 ?_; clear hk a; intro a hk) | (refine wx2 ?_ ?_ <;> (intro hp; clear hk a; intro a hk)) | (refine wx3 ?_; clear hk hS a; intro w b hS a hk) | (refine wx4 ?_; clear hk hS a; intro w hS a hk) | (refine wx5 ?_; clear hk hS a; intro w v hS a hk) | fail) | refine wx0 ?_ | (refine s_end hk ?_; clear hk a; intro a hk) | fail))
    exact done1 hk (h := ⟨by rw [cutF, if_pos hn]; rfl, hS.nil⟩)
  · have hn' : ¬ (n : Int) < (s.size : Int) := by omega
    (repeat' (first | (show wpListIn _ _ _ _ _ (_ :: _) _ _; first | (refine wx1 ?_; clear hk a; intro a hk) | (refine wx2 ?_ ?_ <;> (intro hp; clear hk a; intro a hk)) | (refine wx3 ?_; clear hk hS a; intro w b hS a hk) | (refine wx4 ?_; clear hk hS a; intro w hS a hk) | (refine wx5 ?_; clear hk hS a; intro w v hS a hk) | fail) | refine wx0 ?_ | (refine s_end hk ?_; clear hk a; intro a hk) | fail))
    exact done1 hk (h := ⟨by rw [cutF, if_neg hn], hS.nil⟩)

abbrev Ent := Int × Int × Int × ByteArray
def cutE (e : Ent) : Ent := (e.1, e.2.1, e.2.2.1, cutF e.2.2.2 20)
def ownE (l : List Ent) (n : Nat) : List Ent := (l.take n).map cutE
theorem ownE_len (l : List Ent) (n : Nat) : (ownE l n).length = min n l.length := by simp [ownE]
theorem ownE_succ {l : List Ent} {i : Nat} {x : Ent} (h : l[i]? = some x) : ownE l (i + 1) = ownE l i ++ [cutE x] := by simp [ownE, take_snoc h]

set_option maxHeartbeats 1000000 in
theorem own19_any (l : List Ent) (n : Nat) (hn : n ≤ 1000) (v : Value) (w0 : World) (hv : SlT l v w0) : Calls Tryd.prog 18 #[v, .int .i64 (n : Int)] w0
    (Ret fun v w => ∃ va vb, v = .tuple #[va, vb] ∧ St w0 [OwT 38 (ownE l n) va, OwT 37 (ownE l n) vb] w) := by
  refine enter Tryd.func18 rfl Tryd.ntmps18 rfl (fun a hk => ?_); have hS := St.refl w0
  (repeat' (first | (show wpListIn _ _ _ _ _ (_ :: _) _ _; first | (refine wx1 ?_; clear hk a; intro a hk) | (refine wx2 ?_ ?_ <;> (intro hp; clear hk a; intro a hk)) | (refine wx3 ?_; clear hk hS a; intro w b hS a hk) | (refine wx4 ?_; clear hk hS a; intro w hS a hk) | (refine wx5 ?_; clear hk hS a; intro w v hS a hk) | fail) | refine wx0 ?_ | (refine s_end hk ?_; clear hk a; intro a hk) | fail))
  replace hS := (hS.nilT 37 Ent).nilT 38 Ent
  replace hk := Kn.kp [0, 1, 6, 7, 8] hk
  refine wp_for n (fun i v => [(6, v.1), (7, v.2), (8, .int .i64 (i : Int))]) (fun i v => [OwT 38 (ownE l i) v.1, OwT 37 (ownE l i) v.2]) (fun i _ => i ≤ l.length) (.slice none 0 0, .slice none 0 0) hk (by repeat (first | exact trivial | refine ⟨rfl, ?_⟩)) hS (by omega) ?_
  clear hk hS a
  rintro i ⟨va, vb⟩ a w hi hk hS hF
  simp only at hk hS
  have hm : l.length ≤ maxLen := hv.len_le
  simp only [maxLen] at hm
  have hlen := ownE_len l i
  by_cases hll : i < l.length
  · have hll' : (i : Int) < ((l.length : Nat) : Int) := by omega
    by_cases hlt : i < n
    · have hlt' : (i : Int) < (n : Int) := by omega
      obtain ⟨⟨g, nd, ho, key⟩, hx⟩ : ∃ x, l[i]? = some x := ⟨_, List.getElem?_eq_getElem hll⟩
      (repeat' (first | (show wpListIn _ _ _ _ _ (_ :: _) _ _; first | (refine wx1 ?_; clear hk a; intro a hk) | (refine wx2 ?_ ?_ <;> (intro hp; clear hk a; intro a hk)) | (refine wx3 ?_; clear hk hS a; intro w b hS a hk) | (refine wx4 ?_; clear hk hS a; intro w hS a hk) | (refine wx5 ?_; clear hk hS a; intro w v hS a hk) | fail) | refine wx0 ?_ | (refine s_end hk ?_; clear hk a; intro a hk) | fail))
      refine sg hk (g_callO hk (hf := by kernel_rfl) (hc := cut_any _ 20 _) (h := ?_)); clear hk a; rintro _ w ⟨rfl, hS1⟩ a hk; replace hS := hS.call0 hS1; clear hS1
      (repeat' (first | (show wpListIn _ _ _ _ _ (_ :: _) _ _; first | (refine wx1 ?_; clear hk a; intro a hk) | (refine wx2 ?_ ?_ <;> (intro hp; clear hk a; intro a hk)) | (refine wx3 ?_; clear hk hS a; intro w b hS a hk) | (refine wx4 ?_; clear hk hS a; intro w hS a hk) | (refine wx5 ?_; clear hk hS a; intro w v hS a hk) | fail) | refine wx0 ?_ | (refine s_end hk ?_; clear hk a; intro a hk) | fail))
      replace hS := hS.sub (L' := [OwT 38 (ownE l i) va, OwT 37 (ownE l i) vb, pts b [.int .i64 g, .int .i64 nd, .int .i64 ho, .string (cutF key 20)] 37]) (by (repeat (first | exact Sub.nil | exact Sub.refl | refine Sub.cons (by (repeat (first | exact At.here | apply At.there))) ?_)))
      replace hk := Kn.kp [0, 1, 6, 7, 8, 9] hk
      refine wp_drawnU2 8 mixed (by kernel_rfl) hk hS ?_; clear hk hS a
      (repeat' (first | (show ObxE _ _ _ _ _ _ _ _ _ (_ :: _) _ _ _; first | refine ox1 ?_ | (refine ox2 ?_ ?_ <;> intro hp) | fail) | fail))
      refine' obe_res (fun us a w hk hd hS => ?_) ?_; rotate_left; focus (have hk := Kn.vw hk (by repeat (first | exact VW.nil | apply VW.val rfl | apply VW.base rfl rfl | apply VW.res rfl | apply VW.upd rfl | apply VW.cpy rfl | apply VW.dep rfl | apply VW.fn rfl | apply VW.lnd rfl | apply VW.tak rfl)); exact v_bsT (xs := [(g, nd, ho, cutF key 20)]) (m := 0) hk (hT := eT rfl) (hE := zT rfl) (hz := oT rfl))
      refine' obe_upd (OwT 38 (ownE l i) va) (fun us a w X hk hd hS hL => ?_) ?_; rotate_left; focus (have hk := Kn.vw hk (by repeat (first | exact VW.nil | apply VW.val rfl | apply VW.base rfl rfl | apply VW.res rfl | apply VW.upd rfl | apply VW.cpy rfl | apply VW.dep rfl | apply VW.fn rfl | apply VW.lnd rfl | apply VW.tak rfl)); exact v_app hk hS (hT := eT rfl) (hTx := eT rfl) (hs := OwT.rd hd.2.1) (hE := zT rfl) (hz := oT rfl) (hzs := rfl) (hby := bT rfl) (hbytes := by simp only [List.length_cons, List.length_nil]; omega) (h63 := by simp only [List.length_cons, List.length_nil, maxLen]; omega))
      (repeat' (first | (show ObxE _ _ _ _ _ _ _ _ _ (_ :: _) _ _ _; first | refine ox1 ?_ | (refine ox2 ?_ ?_ <;> intro hp) | fail) | fail))
      refine' obe_res (fun us a w hk hd hS => ?_) ?_; rotate_left; focus (have hk := Kn.vw hk (by repeat (first | exact VW.nil | apply VW.val rfl | apply VW.base rfl rfl | apply VW.res rfl | apply VW.upd rfl | apply VW.cpy rfl | apply VW.dep rfl | apply VW.fn rfl | apply VW.lnd rfl | apply VW.tak rfl)); exact v_bsT (xs := [(g, nd, ho, cutF key 20)]) (m := 0) hk (hT := eT rfl) (hE := zT rfl) (hz := oT rfl))
      refine' obe_upd (OwT 37 (ownE l i) vb) (fun us a w X hk hd hS hL => ?_) ?_; rotate_left; focus (have hk := Kn.vw hk (by repeat (first | exact VW.nil | apply VW.val rfl | apply VW.base rfl rfl | apply VW.res rfl | apply VW.upd rfl | apply VW.cpy rfl | apply VW.dep rfl | apply VW.fn rfl | apply VW.lnd rfl | apply VW.tak rfl)); exact v_app hk hS (hT := eT rfl) (hTx := eT rfl) (hs := OwT.rd hd.2.1) (hE := zT rfl) (hz := oT rfl) (hzs := rfl) (hby := bT rfl) (hbytes := by simp only [List.length_cons, List.length_nil]; omega) (h63 := by simp only [List.length_cons, List.length_nil, maxLen]; omega))
      refine obe_nil ⟨rfl, ?_⟩; intro us a w hk hS
      rw [show (g, nd, ho, cutF key 20) = cutE (g, nd, ho, key) from rfl, ← ownE_succ hx] at hS
      (repeat' (first | (show wpListIn _ _ _ _ _ (_ :: _) _ _; first | (refine wx1 ?_; clear hk a; intro a hk) | (refine wx2 ?_ ?_ <;> (intro hp; clear hk a; intro a hk)) | (refine wx3 ?_; clear hk hS a; intro w b hS a hk) | (refine wx4 ?_; clear hk hS a; intro w hS a hk) | (refine wx5 ?_; clear hk hS a; intro w v hS a hk) | fail) | refine wx0 ?_ | (refine s_end hk ?_; clear hk a; intro a hk) | fail))
      exact ⟨hlt, (_, _), hk.sd, hS.sb, by omega⟩
    · have hlt' : ¬ (i : Int) < (n : Int) := by omega
      have hin : i = n := by omega
      subst hin
      (repeat' (first | (show wpListIn _ _ _ _ _ (_ :: _) _ _; first | (refine wx1 ?_; clear hk a; intro a hk) | (refine wx2 ?_ ?_ <;> (intro hp; clear hk a; intro a hk)) | (refine wx3 ?_; clear hk hS a; intro w b hS a hk) | (refine wx4 ?_; clear hk hS a; intro w hS a hk) | (refine wx5 ?_; clear hk hS a; intro w v hS a hk) | fail) | refine wx0 ?_ | (refine s_end hk ?_; clear hk a; intro a hk) | fail))
      exact done2 hk (h := ⟨_, _, rfl, hS⟩)
  · have hll' : ¬ (i : Int) < ((l.length : Nat) : Int) := by omega
    have e : ownE l i = ownE l n := by simp only [ownE]; rw [List.take_of_length_le (by omega), List.take_of_length_le (by omega)]
    rw [e] at hS
    (repeat' (first | (show wpListIn _ _ _ _ _ (_ :: _) _ _; first | (refine wx1 ?_; clear hk a; intro a hk) | (refine wx2 ?_ ?_ <;> (intro hp; clear hk a; intro a hk)) | (refine wx3 ?_; clear hk hS a; intro w b hS a hk) | (refine wx4 ?_; clear hk hS a; intro w hS a hk) | (refine wx5 ?_; clear hk hS a; intro w v hS a hk) | fail) | refine wx0 ?_ | (refine s_end hk ?_; clear hk a; intro a hk) | fail))
    exact done2 hk (h := ⟨_, _, rfl, hS⟩)
end Go.Proofs.YteoedhkppmbkoaaDoor
namespace Go.Proofs.YteoedhkppmbkoaaDoor
open Go.RowKit
set_option maxRecDepth 100000
attribute [local irreducible] Go.Code.wpIn Go.wpListIn Go.Calls Gives Go.Exit.then Go.Exit.inBlock Done ObxE

def isK (g : Int) (k : ByteArray) (e : Ent) : Bool := decide (e.1 = g) && decide (e.2.2.2 = k)
def hoF (l : List Ent) (g : Int) (k : ByteArray) : List Int := (l.filter (isK g k)).map (fun e => e.2.2.1)
theorem hoF_len (l : List Ent) (g : Int) (k : ByteArray) : (hoF l g k).length ≤ l.length := by
  unfold hoF; rw [List.length_map]; exact List.length_filter_le _ _
theorem hoF_succ {l : List Ent} {i : Nat} {x : Ent} (h : l[i]? = some x) (g : Int) (k : ByteArray) : hoF (l.take (i + 1)) g k = if isK g k x = true then hoF (l.take i) g k ++ [x.2.2.1] else hoF (l.take i) g k := by
  unfold hoF
  rw [take_snoc h, List.filter_append, List.map_append]
  simp only [List.filter_cons, List.filter_nil]
  split <;> simp

set_option maxHeartbeats 1000000 in
theorem of19_any (l : List Ent) (hl : l.length ≤ 1000) (g : Int) (k : ByteArray) (v : Value) (w0 : World) (hv : SlT l v w0) : Calls Tryd.prog 20 #[v, .int .i64 g, .string k] w0
    (Ret fun v w => St w0 [OwT 3 (hoF l g k) v] w) := by
  refine enter Tryd.func20 rfl Tryd.ntmps20 rfl (fun a hk => ?_); have hS := St.refl w0
  (repeat' (first | (show wpListIn _ _ _ _ _ (_ :: _) _ _; first | (refine wx1 ?_; clear hk a; intro a hk) | (refine wx2 ?_ ?_ <;> (intro hp; clear hk a; intro a hk)) | (refine wx3 ?_; clear hk hS a; intro w b hS a hk) | (refine wx4 ?_; clear hk hS a; intro w hS a hk) | (refine wx5 ?_; clear hk hS a; intro w v hS a hk) | fail) | refine wx0 ?_ | (refine s_end hk ?_; clear hk a; intro a hk) | fail))
  replace hS := hS.nilT 3 Int
  replace hk := Kn.kp [1, 2, 7, 10, 11, 12] hk
  refine wp_for l.length (fun i v => [(7, v), (12, .int .i64 (i : Int))]) (fun i v => [OwT 3 (hoF (l.take i) g k) v]) (fun i _ => True) (.slice none 0 0) hk (by repeat (first | exact trivial | refine ⟨rfl, ?_⟩)) hS trivial ?_
  clear hk hS a
  rintro i vo a w hi hk hS -
  have hlen := hoF_len (l.take i) g k
  rw [List.length_take] at hlen
  by_cases hll : i < l.length
  · obtain ⟨⟨g', nd, ho, key⟩, hx⟩ : ∃ x, l[i]? = some x := ⟨_, List.getElem?_eq_getElem hll⟩
    have hs := hoF_succ hx g k
    (repeat' (first | (show wpListIn _ _ _ _ _ (_ :: _) _ _; first | (refine wx1 ?_; clear hk a; intro a hk) | (refine wx2 ?_ ?_ <;> (intro hp; clear hk a; intro a hk)) | (refine wx3 ?_; clear hk hS a; intro w b hS a hk) | (refine wx4 ?_; clear hk hS a; intro w hS a hk) | (refine wx5 ?_; clear hk hS a; intro w v hS a hk) | fail) | refine wx0 ?_ | (refine s_end hk ?_; clear hk a; intro a hk) | fail))
    · rw [if_pos (show isK g k (g', nd, ho, key) = true by simp [isK, *])] at hs
      rw [← hs] at hS
      exact ⟨hll, _, hk.sd, hS.sb, trivial⟩
    · rw [if_neg (show ¬ isK g k (g', nd, ho, key) = true by simp [isK, *])] at hs
      rw [← hs] at hS
      exact ⟨hll, _, hk.sd, hS.sb, trivial⟩
    · rw [if_neg (show ¬ isK g k (g', nd, ho, key) = true by simp [isK, *])] at hs
      rw [← hs] at hS
      exact ⟨hll, _, hk.sd, hS.sb, trivial⟩
  · have hin : i = l.length := by omega
    subst hin
    rw [List.take_length] at hS
    (repeat' (first | (show wpListIn _ _ _ _ _ (_ :: _) _ _; first | (refine wx1 ?_; clear hk a; intro a hk) | (refine wx2 ?_ ?_ <;> (intro hp; clear hk a; intro a hk)) | (refine wx3 ?_; clear hk hS a; intro w b hS a hk) | (refine wx4 ?_; clear hk hS a; intro w hS a hk) | (refine wx5 ?_; clear hk hS a; intro w v hS a hk) | fail) | refine wx0 ?_ | (refine s_end hk ?_; clear hk a; intro a hk) | fail))
    exact done1 hk (h := hS.sb)

abbrev encK : Int × ByteArray → Value := fun k => .agg #[.int .i64 k.1, .string k.2]
theorem keyK : KeyT Tryd.prog 96 encK := keyIS Tryd.underlying96 (iT rfl) (sT rfl) rfl rfl (kT rfl)

def checkF (l : List Ent) : Bool := l.all (fun e => decide (runF 0 (hoF l e.1 e.2.2.2) ≠ -1))

theorem hoF_take (l : List Ent) (i : Nat) (g : Int) (k : ByteArray) : ∃ j, hoF (l.take i) g k = (hoF l g k).take j := by
  have : hoF l g k = hoF (l.take i) g k ++ hoF (l.drop i) g k := by
    unfold hoF
    rw [← List.map_append, ← List.filter_append, List.take_append_drop]
  exact ⟨(hoF (l.take i) g k).length, by rw [this]; simp⟩

set_option maxHeartbeats 2000000 in
theorem check19_any (l : List Ent) (hl : l.length ≤ 1000) (v : Value) (w0 : World) (hv : SlT l v w0) : Calls Tryd.prog 19 #[v] w0
    (Ret fun v w => v = .bool (checkF l) ∧ St w0 [] w) := by
  refine enter Tryd.func19 rfl Tryd.ntmps19 rfl (fun a hk => ?_); have hS := St.refl w0
  (repeat' (first | (show wpListIn _ _ _ _ _ (_ :: _) _ _; first | (refine wx1 ?_; clear hk a; intro a hk) | (refine wx2 ?_ ?_ <;> (intro hp; clear hk a; intro a hk)) | (refine wx3 ?_; clear hk hS a; intro w b hS a hk) | (refine wx4 ?_; clear hk hS a; intro w hS a hk) | (refine wx5 ?_; clear hk hS a; intro w v hS a hk) | fail) | refine wx0 ?_ | (refine s_end hk ?_; clear hk a; intro a hk) | fail))
  refine sg hk (g_makeMap encK hS ?_); clear hk hS a; intro w mv hS a hk
  (repeat' (first | (show wpListIn _ _ _ _ _ (_ :: _) _ _; first | (refine wx1 ?_; clear hk a; intro a hk) | (refine wx2 ?_ ?_ <;> (intro hp; clear hk a; intro a hk)) | (refine wx3 ?_; clear hk hS a; intro w b hS a hk) | (refine wx4 ?_; clear hk hS a; intro w hS a hk) | (refine wx5 ?_; clear hk hS a; intro w v hS a hk) | fail) | refine wx0 ?_ | (refine s_end hk ?_; clear hk a; intro a hk) | fail))
  replace hk := Kn.kp [3, 8, 9, 10] hk
  refine wp_for l.length (fun i m => [(10, .int .i64 (i : Int))]) (fun i m => [mapH encK mv m]) (fun i m => ∀ g k, (getL m (g, k)).getD (.int .i64 0) = .int .i64 (runF 0 (hoF (l.take i) g k)) ∧ runF 0 (hoF (l.take i) g k) ≠ -1) [] hk (by repeat (first | exact trivial | refine ⟨rfl, ?_⟩)) hS (fun g k => ⟨rfl, by simp [hoF, runF]⟩) ?_
  clear hk hS a
  rintro i m a w hi hk hS hF
  by_cases hll : i < l.length
  · obtain ⟨⟨g, nd, ho, key⟩, hx⟩ : ∃ x, l[i]? = some x := ⟨_, List.getElem?_eq_getElem hll⟩
    have hs := hoF_succ hx
    obtain ⟨hF1, hF2⟩ := hF g key
    have hrs : runF 0 (hoF (l.take (i + 1)) g key) = nextF (runF 0 (hoF (l.take i) g key)) ho := by
      rw [hs g key, if_pos (by simp [isK])]
      have := runF_stop (s := 0) (l := hoF (l.take i) g key ++ [ho]) (i := (hoF (l.take i) g key).length) (h := ho) (by simp) (by simpa using hF2)
      rw [List.take_of_length_le (by simp)] at this
      simpa using this
    (repeat' (first | (show wpListIn _ _ _ _ _ (_ :: _) _ _; first | (refine wx1 ?_; clear hk a; intro a hk) | (refine wx2 ?_ ?_ <;> (intro hp; clear hk a; intro a hk)) | (refine wx3 ?_; clear hk hS a; intro w b hS a hk) | (refine wx4 ?_; clear hk hS a; intro w hS a hk) | (refine wx5 ?_; clear hk hS a; intro w v hS a hk) | fail) | refine wx0 ?_ | (refine s_end hk ?_; clear hk a; intro a hk) | fail))
    refine wp_drawn 8 mixed (by kernel_rfl) hk hS ?_; clear hk hS a
    (repeat' (first | (show ObxE _ _ _ _ _ _ _ _ _ (_ :: _) _ _ _; first | refine ox1 ?_ | (refine ox2 ?_ ?_ <;> intro hp) | fail) | fail))
    refine' obe_val (fun us a w hk hd hS => ?_) ?_; rotate_left; focus (have hk := Kn.vw hk (by repeat (first | exact VW.nil | apply VW.val rfl | apply VW.base rfl rfl | apply VW.res rfl | apply VW.upd rfl | apply VW.cpy rfl | apply VW.dep rfl | apply VW.fn rfl | apply VW.lnd rfl | apply VW.tak rfl)); exact g_lookup (k := (g, key)) hk (hS.rd (A := mapH encK mv m) (by (repeat (first | exact At.here | apply At.there)))) ⟨hF1, (same undef w).2⟩ (mT rfl) keyK (oT rfl))
    (repeat' (first | (show ObxE _ _ _ _ _ _ _ _ _ (_ :: _) _ _ _; first | refine ox1 ?_ | (refine ox2 ?_ ?_ <;> intro hp) | fail) | fail))
    refine' obe_val (fun us a w hk hd hS => ?_) ?_; rotate_left; focus (have hk := Kn.vw hk (by repeat (first | exact VW.nil | apply VW.val rfl | apply VW.base rfl rfl | apply VW.res rfl | apply VW.upd rfl | apply VW.cpy rfl | apply VW.dep rfl | apply VW.fn rfl | apply VW.lnd rfl | apply VW.tak rfl)); exact g_callO hk (hf := by kernel_rfl) (hc := next_any _ _ _) (h := fun _ _ h => h))
    (repeat' (first | (show ObxE _ _ _ _ _ _ _ _ _ (_ :: _) _ _ _; first | refine ox1 ?_ | (refine ox2 ?_ ?_ <;> intro hp) | fail) | fail))
    refine obe_nil ⟨rfl, ?_⟩; intro us a w hk hS
    refine su hk (g_mapUpdate (k := (g, key)) hk hS ?_ (mT rfl) keyK); clear hk hS a; intro w hS a hk
    (repeat' (first | (show wpListIn _ _ _ _ _ (_ :: _) _ _; first | (refine wx1 ?_; clear hk a; intro a hk) | (refine wx2 ?_ ?_ <;> (intro hp; clear hk a; intro a hk)) | (refine wx3 ?_; clear hk hS a; intro w b hS a hk) | (refine wx4 ?_; clear hk hS a; intro w hS a hk) | (refine wx5 ?_; clear hk hS a; intro w v hS a hk) | fail) | refine wx0 ?_ | (refine s_end hk ?_; clear hk a; intro a hk) | fail))
    refine sg hk (g_lookup (k := (g, key)) hk (hS.rd (A := mapH encK mv _) (by (repeat (first | exact At.here | apply At.there)))) ?_ (mT rfl) keyK (oT rfl)); clear hk a; intro a hk
    rw [getL_set, if_pos rfl, Option.getD_some] at hk
    (repeat' (first | (show wpListIn _ _ _ _ _ (_ :: _) _ _; first | (refine wx1 ?_; clear hk a; intro a hk) | (refine wx2 ?_ ?_ <;> (intro hp; clear hk a; intro a hk)) | (refine wx3 ?_; clear hk hS a; intro w b hS a hk) | (refine wx4 ?_; clear hk hS a; intro w hS a hk) | (refine wx5 ?_; clear hk hS a; intro w v hS a hk) | fail) | refine wx0 ?_ | (refine s_end hk ?_; clear hk a; intro a hk) | fail))
    · refine done1 hk (h := ⟨?_, hS.nil⟩)
      congr 1
      symm
      unfold checkF
      rw [List.all_eq_false]
      refine ⟨(g, nd, ho, key), List.mem_of_getElem? hx, ?_⟩
      obtain ⟨j, hj⟩ := hoF_take l (i + 1) g key
      rename_i hp
      rw [← hrs, hj] at hp
      have := runF_dead hp (by omega)
      simp [this]
    · refine ⟨hll, _, hk.sd, hS.sb, fun g1 k1 => ?_⟩
      rw [getL_set]
      by_cases hgk : (g1, k1) = (g, key)
      · rw [if_pos hgk]
        injection hgk with h1 h2
        subst h1; subst h2
        rw [hrs]
        exact ⟨rfl, by assumption⟩
      · rw [if_neg hgk, hs g1 k1, if_neg]
        · exact hF g1 k1
        · intro e
          simp only [isK, Bool.and_eq_true, decide_eq_true_eq] at e
          exact hgk (by rw [e.1, e.2])
  · have hin : i = l.length := by omega
    subst hin
    rw [List.take_length] at hF
    (repeat' (first | (show wpListIn _ _ _ _ _ (_ :: _) _ _; first | (refine wx1 ?_; clear hk a; intro a hk) | (refine wx2 ?_ ?_ <;> (intro hp; clear hk a; intro a hk)) | (refine wx3 ?_; clear hk hS a; intro w b hS a hk) | (refine wx4 ?_; clear hk hS a; intro w hS a hk) | (refine wx5 ?_; clear hk hS a; intro w v hS a hk) | fail) | refine wx0 ?_ | (refine s_end hk ?_; clear hk a; intro a hk) | fail))
    refine done1 hk (h := ⟨?_, hS.nil⟩)
    congr 1
    symm
    unfold checkF
    rw [List.all_eq_true]
    intro e _
    exact decide_eq_true (hF e.1 e.2.2.2).2
end Go.Proofs.YteoedhkppmbkoaaDoor
namespace Go.Proofs.YteoedhkppmbkoaaDoor
open Lib (decDigits itoa)

def digB (b : UInt8) : Bool := decide (48 ≤ b.toNat ∧ b.toNat ≤ 57)
def valL (l : List UInt8) : Nat := l.foldl (fun n b => 10 * n + (b.toNat - 48)) 0
def sgnL (L : List UInt8) : Bool := decide (L.head? = some 45)
def digL (L : List UInt8) : List UInt8 := if sgnL L then L.tail else L
def numL (L : List UInt8) : Int := if sgnL L then -((valL (digL L) : Nat) : Int) else ((valL (digL L) : Nat) : Int)
def badD (L : List UInt8) : Prop := digL L = [] ∨ 10 < (digL L).length ∨ (digL L).all digB = false
def zerD (L : List UInt8) : Prop := (digL L).head? = some 48 ∧ (1 < (digL L).length ∨ sgnL L = true)
def outR (m : Int) : Prop := m < -2147483648 ∨ 2147483647 < m
instance (L : List UInt8) : Decidable (badD L) := by unfold badD; infer_instance
instance (L : List UInt8) : Decidable (zerD L) := by unfold zerD; infer_instance
instance (m : Int) : Decidable (outR m) := by unfold outR; infer_instance
def numP (L : List UInt8) : Int × Bool := if badD L ∨ zerD L ∨ outR (numL L) then (0, false) else (numL L, true)
end Go.Proofs.YteoedhkppmbkoaaDoor
namespace Go.Proofs.YteoedhkppmbkoaaDoor
variable {df : List Deferred}
open Go.RowKit

section
variable {P : Program} {a : Act} {w w' : World} {w0 : Bs} {n : Nat} {l : List (Nat × Value)} {L L' : List HP}
  {dst : Option Nat} {R : Value → World → Prop} {ty : TypeId} {pos : String} {af : Array Edge} {g : Option (Nat × Bool)}

end

section
variable {α : Type}
def insF (xs : List α) (i : Nat) (e : α) : List α := xs.take i ++ e :: xs.drop i

variable [Enc α]
end
end Go.Proofs.YteoedhkppmbkoaaDoor
namespace Go.Proofs.YteoedhkppmbkoaaDoor
variable {df : List Deferred}
open Go.RowKit

section
variable {P : Program} {a : Act} {w w' : World} {w0 : Bs} {n : Nat} {l : List (Nat × Value)} {L L' : List HP}
  {dst : Option Nat} {R : Value → World → Prop} {ty : TypeId} {pos : String} {af : Array Edge} {g : Option (Nat × Bool)}

end

def emp0 (v : Value) : HP where
  holds F _ := (∀ b, ¬ F b) ∧ ∃ ao, v = .slice ao 0 0
  stable := fun _ _ _ h _ => h
  dom := fun _ _ b h hb => absurd hb (h.1 b)
section
variable {P : Program} {a : Act} {w w' : World} {w0 : Bs} {n : Nat} {l : List (Nat × Value)} {L L' : List HP}
  {dst : Option Nat} {R : Value → World → Prop} {ty : TypeId} {pos : String} {af : Array Edge} {g : Option (Nat × Bool)} {α : Type} [Enc α]
end

section
variable {α : Type} (p : α → Bool)
structure Sieve (s ys : List α) (i j : Nat) : Prop where
  len : ys.length = s.length
  le : i < j
  head : ys.take i = (s.take j).filter (fun x => !p x)
  tail : ys.drop j = s.drop j
end

section
variable {α : Type} [Enc α]
end

section
variable {α : Type} [Enc α]
variable {P : Program} {a : Act} {w w' : World} {w0 : Bs} {n : Nat} {l : List (Nat × Value)} {L L' : List HP}
  {dst : Option Nat} {R : Value → World → Prop} {ty : TypeId} {pos : String} {af : Array Edge} {g : Option (Nat × Bool)}
end
end Go.Proofs.YteoedhkppmbkoaaDoor
