/- Layer 19: the document's table, and rows of hooks. -/
import Derived.Test.YteoedhkppmbkoaaDoorHooks2
namespace Go.Proofs.YteoedhkppmbkoaaDoor
open Go.RowKit
set_option maxRecDepth 100000
attribute [local irreducible] Go.Code.wp Go.wpList Go.Calls Gives Go.Exit.then Go.Exit.inBlock Done ObxE

def runF : Int → List Int → Int
  | s, [] => s
  | s, h :: l => if nextF s h = -1 then -1 else runF (nextF s h) l
theorem next_range (s h : Int) : -1 ≤ nextF s h ∧ nextF s h ≤ 6 ∧ nextF s h ≠ 0 := by
  unfold nextF; (repeat' split) <;> omega
theorem runF_stop {s : Int} {l : List Int} {i : Nat} {h : Int} (hi : l[i]? = some h) (h1 : runF s (l.take i) ≠ -1) : runF s (l.take (i + 1)) = nextF (runF s (l.take i)) h := by
  induction l generalizing s i with
  | nil => simp at hi
  | cons x l ih =>
    cases i with
    | zero =>
      simp at hi; subst hi
      simp only [List.take_zero, List.take_succ_cons, runF]
      split
      · rename_i e; rw [e]
      · rfl
    | succ i =>
      simp only [List.take_succ_cons, runF] at h1 ⊢
      split
      · rename_i e; rw [if_pos e] at h1; exact absurd rfl h1
      · rename_i e
        rw [if_neg e] at h1
        exact ih (by simpa using hi) h1
theorem runF_dead {s : Int} {l : List Int} {i : Nat} (h : runF s (l.take i) = -1) (hs : s ≠ -1) : runF s l = -1 := by
  induction l generalizing s i with
  | nil => simp [runF] at h; exact absurd h hs
  | cons x l ih =>
    cases i with
    | zero => simp [runF] at h; exact absurd h hs
    | succ i =>
      simp only [List.take_succ_cons, runF] at h ⊢
      split
      · rfl
      · rename_i e; rw [if_neg e] at h; exact ih h e

theorem runF_range (s : Int) (l : List Int) (hs : -1 ≤ s) : -1 ≤ runF s l := by
  induction l generalizing s with
  | nil => exact hs
  | cons x l ih =>
    simp only [runF]
    split
    · omega
    · exact ih _ (next_range s x).1
theorem run_any (l : List Int) (va : Value) (w0 : World) (ha : SlT l va w0) (hl : l.length ≤ 1000) : Calls Tryd.prog 16 #[va] w0 (Ret fun v w => v = .int .i64 (runF 0 l) ∧ St w0 [] w) := by
  refine enter Tryd.func16 rfl Tryd.ntmps16 rfl (fun a hk => ?_); have hS := St.refl w0
  (repeat' (first | (show wpList _ _ _ (_ :: _) _ _; first | (refine st hk ?_; clear hk a; intro a hk) | (refine st_skip hk ?_; clear hk a; intro a hk) | (refine s_skip0 hk ?_; clear hk a; intro a hk) | (first | refine st_lss hk ?_ ?_ | refine st_leq hk ?_ ?_ | refine st_gtr hk ?_ ?_ | refine st_geq hk ?_ ?_ | refine st_eqi hk ?_ ?_ | refine st_nei hk ?_ ?_ | refine st_eqS hk ?_ ?_ | refine st_neS hk ?_ ?_ | refine st_eqs hk ?_ ?_ | refine st_nes hk ?_ ?_) <;> (intro hp; clear hk a; intro a hk) | (first | refine st_box hk hS ?_ | refine st_alloc hk hS ?_); clear hk hS a; intro w b hS a hk | (first | refine st_store hk hS ?_ | refine st_stI hk hS ?_ | refine st_stB hk hS ?_ | refine st_stS hk hS ?_); clear hk hS a; intro w hS a hk | (first | refine st_bs1I hk hS ?_ | refine st_bs1S hk hS ?_ | refine st_app1 hk hS ?_ | refine st_appE hk hS ?_); clear hk hS a; intro w v hS a hk | fail) | refine wp_seq ?_ | refine wp_block ?_ | refine wp_region_lit ?_ | refine q_then ?_ | refine q_thenE ?_ | refine q_thenR ?_ | refine q_inN ?_ | refine q_inR ?_ | refine q_inE ?_ | refine q_inO ?_ | refine wp_skip ?_ | refine wp_ret ?_ | refine wp_exit ?_ | (refine s_end hk ?_; clear hk a; intro a hk) | refine c_true hk ?_ | refine c_false hk ?_ | fail))
  replace hk := Kn.kp [3, 6, 7, 8] hk
  refine wp_for l.length (fun i _ => [(3, .int .i64 (runF 0 (l.take i))), (8, .int .i64 (i : Int))]) (fun _ _ => []) (fun i _ => runF 0 (l.take i) ≠ -1) () hk (by repeat (first | exact trivial | refine ⟨rfl, ?_⟩)) hS (by simp [runF]) ?_
  clear hk hS a
  rintro i _ a w hi hk hS hF
  (repeat' (first | (show wpList _ _ _ (_ :: _) _ _; first | (refine st hk ?_; clear hk a; intro a hk) | (refine st_skip hk ?_; clear hk a; intro a hk) | (refine s_skip0 hk ?_; clear hk a; intro a hk) | (first | refine st_lss hk ?_ ?_ | refine st_leq hk ?_ ?_ | refine st_gtr hk ?_ ?_ | refine st_geq hk ?_ ?_ | refine st_eqi hk ?_ ?_ | refine st_nei hk ?_ ?_ | refine st_eqS hk ?_ ?_ | refine st_neS hk ?_ ?_ | refine st_eqs hk ?_ ?_ | refine st_nes hk ?_ ?_) <;> (intro hp; clear hk a; intro a hk) | (first | refine st_box hk hS ?_ | refine st_alloc hk hS ?_); clear hk hS a; intro w b hS a hk | (first | refine st_store hk hS ?_ | refine st_stI hk hS ?_ | refine st_stB hk hS ?_ | refine st_stS hk hS ?_); clear hk hS a; intro w hS a hk | (first | refine st_bs1I hk hS ?_ | refine st_bs1S hk hS ?_ | refine st_app1 hk hS ?_ | refine st_appE hk hS ?_); clear hk hS a; intro w v hS a hk | fail) | refine wp_seq ?_ | refine wp_block ?_ | refine wp_region_lit ?_ | refine q_then ?_ | refine q_thenE ?_ | refine q_thenR ?_ | refine q_inN ?_ | refine q_inR ?_ | refine q_inE ?_ | refine q_inO ?_ | refine wp_skip ?_ | refine wp_ret ?_ | refine wp_exit ?_ | (refine s_end hk ?_; clear hk a; intro a hk) | refine c_true hk ?_ | refine c_false hk ?_ | fail))
  · have hil : i < l.length := by omega
    refine sg hk (g_callO hk (hf := by kernel_rfl) (hc := next_any _ _ _) (h := ?_)); clear hk a; rintro _ w ⟨rfl, hS1⟩ a hk; replace hS := hS.call0 hS1; clear hS1
    rw [← runF_stop (List.getElem?_eq_getElem hil) hF] at hk
    (repeat' (first | (show wpList _ _ _ (_ :: _) _ _; first | (refine st hk ?_; clear hk a; intro a hk) | (refine st_skip hk ?_; clear hk a; intro a hk) | (refine s_skip0 hk ?_; clear hk a; intro a hk) | (first | refine st_lss hk ?_ ?_ | refine st_leq hk ?_ ?_ | refine st_gtr hk ?_ ?_ | refine st_geq hk ?_ ?_ | refine st_eqi hk ?_ ?_ | refine st_nei hk ?_ ?_ | refine st_eqS hk ?_ ?_ | refine st_neS hk ?_ ?_ | refine st_eqs hk ?_ ?_ | refine st_nes hk ?_ ?_) <;> (intro hp; clear hk a; intro a hk) | (first | refine st_box hk hS ?_ | refine st_alloc hk hS ?_); clear hk hS a; intro w b hS a hk | (first | refine st_store hk hS ?_ | refine st_stI hk hS ?_ | refine st_stB hk hS ?_ | refine st_stS hk hS ?_); clear hk hS a; intro w hS a hk | (first | refine st_bs1I hk hS ?_ | refine st_bs1S hk hS ?_ | refine st_app1 hk hS ?_ | refine st_appE hk hS ?_); clear hk hS a; intro w v hS a hk | fail) | refine wp_seq ?_ | refine wp_block ?_ | refine wp_region_lit ?_ | refine q_then ?_ | refine q_thenE ?_ | refine q_thenR ?_ | refine q_inN ?_ | refine q_inR ?_ | refine q_inE ?_ | refine q_inO ?_ | refine wp_skip ?_ | refine wp_ret ?_ | refine wp_exit ?_ | (refine s_end hk ?_; clear hk a; intro a hk) | refine c_true hk ?_ | refine c_false hk ?_ | fail))
    · refine done1 hk (h := ⟨?_, hS.nil⟩)
      rw [runF_dead (i := i + 1) (by assumption) (by omega)]
    · exact ⟨hil, (), hk.sd, hS, by assumption⟩
  · have : i = l.length := by omega
    subst this
    rw [List.take_of_length_le (Nat.le_refl _)] at hk
    exact done1 hk (h := ⟨rfl, hS.nil⟩)

/-! ## The document's table -/
def tab : List (Int × Int × Int) := [(0, 1, 1), (0, 5, 4), (1, 2, 2), (2, 3, 3), (2, 4, 3), (3, 5, 4), (4, 6, 5), (5, 7, 6), (5, 8, 6), (6, 1, 1)]
theorem tab_yes : ∀ t ∈ tab, nextF t.1 t.2.1 = t.2.2 := by decide +kernel
theorem tab_no {s h : Int} (hn : ∀ t ∈ tab, ¬ (t.1 = s ∧ t.2.1 = h)) : nextF s h = -1 := by
  have no : ∀ a b c : Int, (a, b, c) ∈ tab → ¬ (s = a ∧ h = b) := fun a b c hm e => hn _ hm ⟨e.1.symm, e.2.symm⟩
  unfold nextF
  rw [if_neg (not_or.2 ⟨no 0 1 1 (by decide), no 6 1 1 (by decide)⟩), if_neg (no 1 2 2 (by decide)), if_neg (not_or.2 ⟨no 2 3 3 (by decide), no 2 4 3 (by decide)⟩), if_neg (not_or.2 ⟨no 0 5 4 (by decide), no 3 5 4 (by decide)⟩), if_neg (no 4 6 5 (by decide)), if_neg (not_or.2 ⟨no 5 7 6 (by decide), no 5 8 6 (by decide)⟩)]
def row3 (t : Int × Int × Int) : List Int := [t.1, t.2.1, t.2.2]

set_option maxHeartbeats 1000000 in
theorem refNext_any (s h : Int) (w0 : World) : Calls Tryd.prog 13 #[.int .i64 s, .int .i64 h] w0 (Ret fun v w => v = .int .i64 (nextF s h) ∧ St w0 [] w) := by
  refine enter Tryd.func13 rfl Tryd.ntmps13 rfl (fun a hk => ?_); have hS := St.refl w0
  (repeat' (first | (show wpList _ _ _ (_ :: _) _ _; first | (refine st hk ?_; clear hk a; intro a hk) | (refine st_skip hk ?_; clear hk a; intro a hk) | (refine s_skip0 hk ?_; clear hk a; intro a hk) | (first | refine st_lss hk ?_ ?_ | refine st_leq hk ?_ ?_ | refine st_gtr hk ?_ ?_ | refine st_geq hk ?_ ?_ | refine st_eqi hk ?_ ?_ | refine st_nei hk ?_ ?_ | refine st_eqS hk ?_ ?_ | refine st_neS hk ?_ ?_ | refine st_eqs hk ?_ ?_ | refine st_nes hk ?_ ?_) <;> (intro hp; clear hk a; intro a hk) | (first | refine st_box hk hS ?_ | refine st_alloc hk hS ?_); clear hk hS a; intro w b hS a hk | (first | refine st_store hk hS ?_ | refine st_stI hk hS ?_ | refine st_stB hk hS ?_ | refine st_stS hk hS ?_); clear hk hS a; intro w hS a hk | (first | refine st_bs1I hk hS ?_ | refine st_bs1S hk hS ?_ | refine st_app1 hk hS ?_ | refine st_appE hk hS ?_); clear hk hS a; intro w v hS a hk | fail) | refine wp_seq ?_ | refine wp_block ?_ | refine wp_region_lit ?_ | refine q_then ?_ | refine q_thenE ?_ | refine q_thenR ?_ | refine q_inN ?_ | refine q_inR ?_ | refine q_inE ?_ | refine q_inO ?_ | refine wp_skip ?_ | refine wp_ret ?_ | refine wp_exit ?_ | (refine s_end hk ?_; clear hk a; intro a hk) | refine c_true hk ?_ | refine c_false hk ?_ | fail))
  refine sg hk (g_bsT (xs := row3 (0, 1, 1)) (m := 2) hk hS ?_ (hT := eT rfl) (hE := zT rfl) (hz := oT rfl)); clear hk hS a; intro w u0 hS a hk
  refine sg hk (g_bsT (xs := row3 (0, 5, 4)) (m := 2) hk hS ?_ (hT := eT rfl) (hE := zT rfl) (hz := oT rfl)); clear hk hS a; intro w u1 hS a hk
  refine sg hk (g_bsT (xs := row3 (1, 2, 2)) (m := 2) hk hS ?_ (hT := eT rfl) (hE := zT rfl) (hz := oT rfl)); clear hk hS a; intro w u2 hS a hk
  refine sg hk (g_bsT (xs := row3 (2, 3, 3)) (m := 2) hk hS ?_ (hT := eT rfl) (hE := zT rfl) (hz := oT rfl)); clear hk hS a; intro w u3 hS a hk
  refine sg hk (g_bsT (xs := row3 (2, 4, 3)) (m := 2) hk hS ?_ (hT := eT rfl) (hE := zT rfl) (hz := oT rfl)); clear hk hS a; intro w u4 hS a hk
  refine sg hk (g_bsT (xs := row3 (3, 5, 4)) (m := 2) hk hS ?_ (hT := eT rfl) (hE := zT rfl) (hz := oT rfl)); clear hk hS a; intro w u5 hS a hk
  refine sg hk (g_bsT (xs := row3 (4, 6, 5)) (m := 2) hk hS ?_ (hT := eT rfl) (hE := zT rfl) (hz := oT rfl)); clear hk hS a; intro w u6 hS a hk
  refine sg hk (g_bsT (xs := row3 (5, 7, 6)) (m := 2) hk hS ?_ (hT := eT rfl) (hE := zT rfl) (hz := oT rfl)); clear hk hS a; intro w u7 hS a hk
  refine sg hk (g_bsT (xs := row3 (5, 8, 6)) (m := 2) hk hS ?_ (hT := eT rfl) (hE := zT rfl) (hz := oT rfl)); clear hk hS a; intro w u8 hS a hk
  refine sg hk (g_bsT (xs := row3 (6, 1, 1)) (m := 2) hk hS ?_ (hT := eT rfl) (hE := zT rfl) (hz := oT rfl)); clear hk hS a; intro w u9 hS a hk
  obtain ⟨p0, c0, e0, _⟩ := (OwT.rd (hS.rd (A := OwT 3 (row3 (0, 1, 1)) u0) (by (repeat (first | exact At.here | apply At.there))))).shape
  obtain ⟨p1, c1, e1, _⟩ := (OwT.rd (hS.rd (A := OwT 3 (row3 (0, 5, 4)) u1) (by (repeat (first | exact At.here | apply At.there))))).shape
  obtain ⟨p2, c2, e2, _⟩ := (OwT.rd (hS.rd (A := OwT 3 (row3 (1, 2, 2)) u2) (by (repeat (first | exact At.here | apply At.there))))).shape
  obtain ⟨p3, c3, e3, _⟩ := (OwT.rd (hS.rd (A := OwT 3 (row3 (2, 3, 3)) u3) (by (repeat (first | exact At.here | apply At.there))))).shape
  obtain ⟨p4, c4, e4, _⟩ := (OwT.rd (hS.rd (A := OwT 3 (row3 (2, 4, 3)) u4) (by (repeat (first | exact At.here | apply At.there))))).shape
  obtain ⟨p5, c5, e5, _⟩ := (OwT.rd (hS.rd (A := OwT 3 (row3 (3, 5, 4)) u5) (by (repeat (first | exact At.here | apply At.there))))).shape
  obtain ⟨p6, c6, e6, _⟩ := (OwT.rd (hS.rd (A := OwT 3 (row3 (4, 6, 5)) u6) (by (repeat (first | exact At.here | apply At.there))))).shape
  obtain ⟨p7, c7, e7, _⟩ := (OwT.rd (hS.rd (A := OwT 3 (row3 (5, 7, 6)) u7) (by (repeat (first | exact At.here | apply At.there))))).shape
  obtain ⟨p8, c8, e8, _⟩ := (OwT.rd (hS.rd (A := OwT 3 (row3 (5, 8, 6)) u8) (by (repeat (first | exact At.here | apply At.there))))).shape
  obtain ⟨p9, c9, e9, _⟩ := (OwT.rd (hS.rd (A := OwT 3 (row3 (6, 1, 1)) u9) (by (repeat (first | exact At.here | apply At.there))))).shape
  subst e0 e1 e2 e3 e4 e5 e6 e7 e8 e9
  refine sg hk (g_bsT (xs := [(⟨p0, 3, c0⟩ : Hd), (⟨p1, 3, c1⟩ : Hd), (⟨p2, 3, c2⟩ : Hd), (⟨p3, 3, c3⟩ : Hd), (⟨p4, 3, c4⟩ : Hd), (⟨p5, 3, c5⟩ : Hd), (⟨p6, 3, c6⟩ : Hd), (⟨p7, 3, c7⟩ : Hd), (⟨p8, 3, c8⟩ : Hd), (⟨p9, 3, c9⟩ : Hd)]) (m := 9) hk hS ?_ (hT := eT rfl) (hE := zT rfl) (hz := oT rfl)); clear hk hS a; intro w vt hS a hk
  have hR : ∀ (i : Nat) (h : Hd) (t : Int × Int × Int), [(⟨p0, 3, c0⟩ : Hd), (⟨p1, 3, c1⟩ : Hd), (⟨p2, 3, c2⟩ : Hd), (⟨p3, 3, c3⟩ : Hd), (⟨p4, 3, c4⟩ : Hd), (⟨p5, 3, c5⟩ : Hd), (⟨p6, 3, c6⟩ : Hd), (⟨p7, 3, c7⟩ : Hd), (⟨p8, 3, c8⟩ : Hd), (⟨p9, 3, c9⟩ : Hd)][i]? = some h → tab[i]? = some t → SlT (row3 t) (Hd.v h) w := by
    intro i h t h1 h2
    match i with
    | 0 => cases h1; cases h2; exact OwT.rd (hS.rd (A := OwT 3 (row3 (0, 1, 1)) (.slice p0 3 c0)) (by (repeat (first | exact At.here | apply At.there))))
    | 1 => cases h1; cases h2; exact OwT.rd (hS.rd (A := OwT 3 (row3 (0, 5, 4)) (.slice p1 3 c1)) (by (repeat (first | exact At.here | apply At.there))))
    | 2 => cases h1; cases h2; exact OwT.rd (hS.rd (A := OwT 3 (row3 (1, 2, 2)) (.slice p2 3 c2)) (by (repeat (first | exact At.here | apply At.there))))
    | 3 => cases h1; cases h2; exact OwT.rd (hS.rd (A := OwT 3 (row3 (2, 3, 3)) (.slice p3 3 c3)) (by (repeat (first | exact At.here | apply At.there))))
    | 4 => cases h1; cases h2; exact OwT.rd (hS.rd (A := OwT 3 (row3 (2, 4, 3)) (.slice p4 3 c4)) (by (repeat (first | exact At.here | apply At.there))))
    | 5 => cases h1; cases h2; exact OwT.rd (hS.rd (A := OwT 3 (row3 (3, 5, 4)) (.slice p5 3 c5)) (by (repeat (first | exact At.here | apply At.there))))
    | 6 => cases h1; cases h2; exact OwT.rd (hS.rd (A := OwT 3 (row3 (4, 6, 5)) (.slice p6 3 c6)) (by (repeat (first | exact At.here | apply At.there))))
    | 7 => cases h1; cases h2; exact OwT.rd (hS.rd (A := OwT 3 (row3 (5, 7, 6)) (.slice p7 3 c7)) (by (repeat (first | exact At.here | apply At.there))))
    | 8 => cases h1; cases h2; exact OwT.rd (hS.rd (A := OwT 3 (row3 (5, 8, 6)) (.slice p8 3 c8)) (by (repeat (first | exact At.here | apply At.there))))
    | 9 => cases h1; cases h2; exact OwT.rd (hS.rd (A := OwT 3 (row3 (6, 1, 1)) (.slice p9 3 c9)) (by (repeat (first | exact At.here | apply At.there))))
    | n + 10 => simp at h1
  have hvt : SlT [(⟨p0, 3, c0⟩ : Hd), (⟨p1, 3, c1⟩ : Hd), (⟨p2, 3, c2⟩ : Hd), (⟨p3, 3, c3⟩ : Hd), (⟨p4, 3, c4⟩ : Hd), (⟨p5, 3, c5⟩ : Hd), (⟨p6, 3, c6⟩ : Hd), (⟨p7, 3, c7⟩ : Hd), (⟨p8, 3, c8⟩ : Hd), (⟨p9, 3, c9⟩ : Hd)] vt w := OwT.rd (hS.rd At.here)
  have hlen : ([(⟨p0, 3, c0⟩ : Hd), (⟨p1, 3, c1⟩ : Hd), (⟨p2, 3, c2⟩ : Hd), (⟨p3, 3, c3⟩ : Hd), (⟨p4, 3, c4⟩ : Hd), (⟨p5, 3, c5⟩ : Hd), (⟨p6, 3, c6⟩ : Hd), (⟨p7, 3, c7⟩ : Hd), (⟨p8, 3, c8⟩ : Hd), (⟨p9, 3, c9⟩ : Hd)]).length = 10 := rfl
  have hS0 := hS
  clear hS
  have hS := St.refl w
  generalize [(⟨p0, 3, c0⟩ : Hd), (⟨p1, 3, c1⟩ : Hd), (⟨p2, 3, c2⟩ : Hd), (⟨p3, 3, c3⟩ : Hd), (⟨p4, 3, c4⟩ : Hd), (⟨p5, 3, c5⟩ : Hd), (⟨p6, 3, c6⟩ : Hd), (⟨p7, 3, c7⟩ : Hd), (⟨p8, 3, c8⟩ : Hd), (⟨p9, 3, c9⟩ : Hd)] = hds at hR hvt hlen hS0
  (repeat' (first | (show wpList _ _ _ (_ :: _) _ _; first | (refine st hk ?_; clear hk a; intro a hk) | (refine st_skip hk ?_; clear hk a; intro a hk) | (refine s_skip0 hk ?_; clear hk a; intro a hk) | (first | refine st_lss hk ?_ ?_ | refine st_leq hk ?_ ?_ | refine st_gtr hk ?_ ?_ | refine st_geq hk ?_ ?_ | refine st_eqi hk ?_ ?_ | refine st_nei hk ?_ ?_ | refine st_eqS hk ?_ ?_ | refine st_neS hk ?_ ?_ | refine st_eqs hk ?_ ?_ | refine st_nes hk ?_ ?_) <;> (intro hp; clear hk a; intro a hk) | (first | refine st_box hk hS ?_ | refine st_alloc hk hS ?_); clear hk hS a; intro w b hS a hk | (first | refine st_store hk hS ?_ | refine st_stI hk hS ?_ | refine st_stB hk hS ?_ | refine st_stS hk hS ?_); clear hk hS a; intro w hS a hk | (first | refine st_bs1I hk hS ?_ | refine st_bs1S hk hS ?_ | refine st_app1 hk hS ?_ | refine st_appE hk hS ?_); clear hk hS a; intro w v hS a hk | fail) | refine wp_seq ?_ | refine wp_block ?_ | refine wp_region_lit ?_ | refine q_then ?_ | refine q_thenE ?_ | refine q_thenR ?_ | refine q_inN ?_ | refine q_inR ?_ | refine q_inE ?_ | refine q_inO ?_ | refine wp_skip ?_ | refine wp_ret ?_ | refine wp_exit ?_ | (refine s_end hk ?_; clear hk a; intro a hk) | refine c_true hk ?_ | refine c_false hk ?_ | fail))
  replace hk := Kn.kp [0, 1, 17, 18, 19] hk
  refine wp_for 10 (fun i _ => [(19, .int .i64 (i : Int))]) (fun _ _ => []) (fun i _ => ∀ j t, j < i → tab[j]? = some t → ¬ (t.1 = s ∧ t.2.1 = h)) () (by rw [hlen] at hk; exact hk) (by repeat (first | exact trivial | refine ⟨rfl, ?_⟩)) hS (fun j t hj => by omega) ?_
  clear hk hS a
  rintro i _ a w hi hk hS hF
  by_cases hil : i < 10
  · obtain ⟨t, ht⟩ : ∃ t, tab[i]? = some t := ⟨_, List.getElem?_eq_getElem (by simpa [tab] using hil)⟩
    have hrow := hR i (hds[i]'(by omega)) t (List.getElem?_eq_getElem (by omega)) ht
    have hl3 : (row3 t).length = 3 := rfl
    have hy := tab_yes t (List.mem_of_getElem? ht)
    (repeat' (first | (show wpList _ _ _ (_ :: _) _ _; first | (refine st hk ?_; clear hk a; intro a hk) | (refine st_skip hk ?_; clear hk a; intro a hk) | (refine s_skip0 hk ?_; clear hk a; intro a hk) | (first | refine st_lss hk ?_ ?_ | refine st_leq hk ?_ ?_ | refine st_gtr hk ?_ ?_ | refine st_geq hk ?_ ?_ | refine st_eqi hk ?_ ?_ | refine st_nei hk ?_ ?_ | refine st_eqS hk ?_ ?_ | refine st_neS hk ?_ ?_ | refine st_eqs hk ?_ ?_ | refine st_nes hk ?_ ?_) <;> (intro hp; clear hk a; intro a hk) | (first | refine st_box hk hS ?_ | refine st_alloc hk hS ?_); clear hk hS a; intro w b hS a hk | (first | refine st_store hk hS ?_ | refine st_stI hk hS ?_ | refine st_stB hk hS ?_ | refine st_stS hk hS ?_); clear hk hS a; intro w hS a hk | (first | refine st_bs1I hk hS ?_ | refine st_bs1S hk hS ?_ | refine st_app1 hk hS ?_ | refine st_appE hk hS ?_); clear hk hS a; intro w v hS a hk | fail) | refine wp_seq ?_ | refine wp_block ?_ | refine wp_region_lit ?_ | refine q_then ?_ | refine q_thenE ?_ | refine q_thenR ?_ | refine q_inN ?_ | refine q_inR ?_ | refine q_inE ?_ | refine q_inO ?_ | refine wp_skip ?_ | refine wp_ret ?_ | refine wp_exit ?_ | (refine s_end hk ?_; clear hk a; intro a hk) | refine c_true hk ?_ | refine c_false hk ?_ | fail))
    · have h1 : t.1 = s := by assumption
      have h2 : t.2.1 = h := by assumption
      refine done1 hk (h := ⟨?_, (hS0.call hS).nil⟩)
      rw [h1, h2] at hy
      rw [hy]; rfl
    · have h2 : ¬ t.2.1 = h := by assumption
      refine ⟨hil, (), hk.sd, hS, fun j t' hj ht' => ?_⟩
      by_cases e : j = i
      · subst e; rw [ht] at ht'; cases ht'; exact fun e => h2 e.2
      · exact hF j t' (by omega) ht'
    · have h2 : ¬ t.1 = s := by assumption
      refine ⟨hil, (), hk.sd, hS, fun j t' hj ht' => ?_⟩
      by_cases e : j = i
      · subst e; rw [ht] at ht'; cases ht'; exact fun e => h2 e.1
      · exact hF j t' (by omega) ht'
  · have hin : i = 10 := by omega
    subst hin
    (repeat' (first | (show wpList _ _ _ (_ :: _) _ _; first | (refine st hk ?_; clear hk a; intro a hk) | (refine st_skip hk ?_; clear hk a; intro a hk) | (refine s_skip0 hk ?_; clear hk a; intro a hk) | (first | refine st_lss hk ?_ ?_ | refine st_leq hk ?_ ?_ | refine st_gtr hk ?_ ?_ | refine st_geq hk ?_ ?_ | refine st_eqi hk ?_ ?_ | refine st_nei hk ?_ ?_ | refine st_eqS hk ?_ ?_ | refine st_neS hk ?_ ?_ | refine st_eqs hk ?_ ?_ | refine st_nes hk ?_ ?_) <;> (intro hp; clear hk a; intro a hk) | (first | refine st_box hk hS ?_ | refine st_alloc hk hS ?_); clear hk hS a; intro w b hS a hk | (first | refine st_store hk hS ?_ | refine st_stI hk hS ?_ | refine st_stB hk hS ?_ | refine st_stS hk hS ?_); clear hk hS a; intro w hS a hk | (first | refine st_bs1I hk hS ?_ | refine st_bs1S hk hS ?_ | refine st_app1 hk hS ?_ | refine st_appE hk hS ?_); clear hk hS a; intro w v hS a hk | fail) | refine wp_seq ?_ | refine wp_block ?_ | refine wp_region_lit ?_ | refine q_then ?_ | refine q_thenE ?_ | refine q_thenR ?_ | refine q_inN ?_ | refine q_inR ?_ | refine q_inE ?_ | refine q_inO ?_ | refine wp_skip ?_ | refine wp_ret ?_ | refine wp_exit ?_ | (refine s_end hk ?_; clear hk a; intro a hk) | refine c_true hk ?_ | refine c_false hk ?_ | fail))
    refine done1 hk (h := ⟨?_, (hS0.call hS).nil⟩)
    rw [tab_no]
    intro t ht
    obtain ⟨j, hj⟩ := List.getElem?_of_mem ht
    have : j < 10 := by have := lt_of_get hj; simpa [tab] using this
    exact hF j t this hj

theorem refRun_any (l : List Int) (va : Value) (w0 : World) (ha : SlT l va w0) (hl : l.length ≤ 1000) : Calls Tryd.prog 17 #[va] w0 (Ret fun v w => v = .int .i64 (runF 0 l) ∧ St w0 [] w) := by
  refine enter Tryd.func17 rfl Tryd.ntmps17 rfl (fun a hk => ?_); have hS := St.refl w0
  (repeat' (first | (show wpList _ _ _ (_ :: _) _ _; first | (refine st hk ?_; clear hk a; intro a hk) | (refine st_skip hk ?_; clear hk a; intro a hk) | (refine s_skip0 hk ?_; clear hk a; intro a hk) | (first | refine st_lss hk ?_ ?_ | refine st_leq hk ?_ ?_ | refine st_gtr hk ?_ ?_ | refine st_geq hk ?_ ?_ | refine st_eqi hk ?_ ?_ | refine st_nei hk ?_ ?_ | refine st_eqS hk ?_ ?_ | refine st_neS hk ?_ ?_ | refine st_eqs hk ?_ ?_ | refine st_nes hk ?_ ?_) <;> (intro hp; clear hk a; intro a hk) | (first | refine st_box hk hS ?_ | refine st_alloc hk hS ?_); clear hk hS a; intro w b hS a hk | (first | refine st_store hk hS ?_ | refine st_stI hk hS ?_ | refine st_stB hk hS ?_ | refine st_stS hk hS ?_); clear hk hS a; intro w hS a hk | (first | refine st_bs1I hk hS ?_ | refine st_bs1S hk hS ?_ | refine st_app1 hk hS ?_ | refine st_appE hk hS ?_); clear hk hS a; intro w v hS a hk | fail) | refine wp_seq ?_ | refine wp_block ?_ | refine wp_region_lit ?_ | refine q_then ?_ | refine q_thenE ?_ | refine q_thenR ?_ | refine q_inN ?_ | refine q_inR ?_ | refine q_inE ?_ | refine q_inO ?_ | refine wp_skip ?_ | refine wp_ret ?_ | refine wp_exit ?_ | (refine s_end hk ?_; clear hk a; intro a hk) | refine c_true hk ?_ | refine c_false hk ?_ | fail))
  replace hk := Kn.kp [3, 6, 7, 8] hk
  refine wp_for l.length (fun i _ => [(3, .int .i64 (runF 0 (l.take i))), (8, .int .i64 (i : Int))]) (fun _ _ => []) (fun i _ => True) () hk (by repeat (first | exact trivial | refine ⟨rfl, ?_⟩)) hS trivial ?_
  clear hk hS a
  rintro i _ a w hi hk hS -
  have hr := runF_range 0 (l.take i) (by omega)
  (repeat' (first | (show wpList _ _ _ (_ :: _) _ _; first | (refine st hk ?_; clear hk a; intro a hk) | (refine st_skip hk ?_; clear hk a; intro a hk) | (refine s_skip0 hk ?_; clear hk a; intro a hk) | (first | refine st_lss hk ?_ ?_ | refine st_leq hk ?_ ?_ | refine st_gtr hk ?_ ?_ | refine st_geq hk ?_ ?_ | refine st_eqi hk ?_ ?_ | refine st_nei hk ?_ ?_ | refine st_eqS hk ?_ ?_ | refine st_neS hk ?_ ?_ | refine st_eqs hk ?_ ?_ | refine st_nes hk ?_ ?_) <;> (intro hp; clear hk a; intro a hk) | (first | refine st_box hk hS ?_ | refine st_alloc hk hS ?_); clear hk hS a; intro w b hS a hk | (first | refine st_store hk hS ?_ | refine st_stI hk hS ?_ | refine st_stB hk hS ?_ | refine st_stS hk hS ?_); clear hk hS a; intro w hS a hk | (first | refine st_bs1I hk hS ?_ | refine st_bs1S hk hS ?_ | refine st_app1 hk hS ?_ | refine st_appE hk hS ?_); clear hk hS a; intro w v hS a hk | fail) | refine wp_seq ?_ | refine wp_block ?_ | refine wp_region_lit ?_ | refine q_then ?_ | refine q_thenE ?_ | refine q_thenR ?_ | refine q_inN ?_ | refine q_inR ?_ | refine q_inE ?_ | refine q_inO ?_ | refine wp_skip ?_ | refine wp_ret ?_ | refine wp_exit ?_ | (refine s_end hk ?_; clear hk a; intro a hk) | refine c_true hk ?_ | refine c_false hk ?_ | fail))
  · have hil : i < l.length := by omega
    refine sg hk (g_callO hk (hf := by kernel_rfl) (hc := refNext_any _ _ _) (h := ?_)); clear hk a; rintro _ w ⟨rfl, hS1⟩ a hk; replace hS := hS.call0 hS1; clear hS1
    rw [← runF_stop (List.getElem?_eq_getElem hil) (by omega)] at hk
    (repeat' (first | (show wpList _ _ _ (_ :: _) _ _; first | (refine st hk ?_; clear hk a; intro a hk) | (refine st_skip hk ?_; clear hk a; intro a hk) | (refine s_skip0 hk ?_; clear hk a; intro a hk) | (first | refine st_lss hk ?_ ?_ | refine st_leq hk ?_ ?_ | refine st_gtr hk ?_ ?_ | refine st_geq hk ?_ ?_ | refine st_eqi hk ?_ ?_ | refine st_nei hk ?_ ?_ | refine st_eqS hk ?_ ?_ | refine st_neS hk ?_ ?_ | refine st_eqs hk ?_ ?_ | refine st_nes hk ?_ ?_) <;> (intro hp; clear hk a; intro a hk) | (first | refine st_box hk hS ?_ | refine st_alloc hk hS ?_); clear hk hS a; intro w b hS a hk | (first | refine st_store hk hS ?_ | refine st_stI hk hS ?_ | refine st_stB hk hS ?_ | refine st_stS hk hS ?_); clear hk hS a; intro w hS a hk | (first | refine st_bs1I hk hS ?_ | refine st_bs1S hk hS ?_ | refine st_app1 hk hS ?_ | refine st_appE hk hS ?_); clear hk hS a; intro w v hS a hk | fail) | refine wp_seq ?_ | refine wp_block ?_ | refine wp_region_lit ?_ | refine q_then ?_ | refine q_thenE ?_ | refine q_thenR ?_ | refine q_inN ?_ | refine q_inR ?_ | refine q_inE ?_ | refine q_inO ?_ | refine wp_skip ?_ | refine wp_ret ?_ | refine wp_exit ?_ | (refine s_end hk ?_; clear hk a; intro a hk) | refine c_true hk ?_ | refine c_false hk ?_ | fail))
    exact ⟨hil, (), hk.sd, hS, trivial⟩
  · have hil : i < l.length := by omega
    have e : runF 0 (l.take i) = runF 0 (l.take (i + 1)) := by
      rw [show runF 0 (l.take i) = -1 by omega, runF_dead (l := l.take (i + 1)) (i := i) (by rw [List.take_take, Nat.min_eq_left (by omega)]; omega) (by omega)]
    rw [e] at hk
    exact ⟨hil, (), hk.sd, hS, trivial⟩
  · have : i = l.length := by omega
    subst this
    rw [List.take_of_length_le (Nat.le_refl _)] at hk
    exact done1 hk (h := ⟨rfl, hS.nil⟩)
end Go.Proofs.YteoedhkppmbkoaaDoor
