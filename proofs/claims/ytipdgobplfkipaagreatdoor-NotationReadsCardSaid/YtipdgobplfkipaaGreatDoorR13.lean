/- Layer 2: of digits the number, by the reference. Layer 8, plain: a word of an element's: as the program takes it is as the reader has it. A region that draws its order, by hand: an operation that only gives a value may be taken first. -/
import Derived.Test.YtipdgobplfkipaaGreatDoorR11
import Derived.KernelRfl
import Derived.Test.YtipdgobplfkipaaGreatDoorR07
set_option linter.all false
namespace Go.Proofs.YtipdgobplfkipaaGreatDoor
open Go.RowKit
set_option maxRecDepth 100000
attribute [local irreducible] Go.Code.wpIn Go.wpListIn Go.Calls Gives Go.Exit.then Go.Exit.inBlock Done ObxE

theorem len_list (s : ByteArray) : s.data.toList.length = s.size := by simp

set_option maxHeartbeats 8000000 in
theorem rnumber_any (s : ByteArray) (hs : s.size ≤ 1000) (w0 : World) (ht : TabW w0) : Calls Tryz.prog 79 #[.string s] w0 (Ret fun v w => v = .tuple #[.int .i64 (numP s.data.toList).1, .bool (numP s.data.toList).2] ∧ St w0 [] w) := by
  have hD := dig_list s
  have hsg := pref_sgn s
  have hsl := len_list s
  have hdd : digS s = if sgnL s.data.toList then s.extract 1 s.size else s := by unfold digS; rw [hsg]
  have hds : (digS s).size = (digL s.data.toList).length := by rw [← hD]; simp
  have hdl : (digS s).size ≤ s.size := by
    rw [hds, ← hsl]
    unfold digL
    split
    · simp
    · exact Nat.le_refl _
  have hs0 : sgnL s.data.toList = true ↔ ∃ h : 0 < s.size, (s[0]'h).toNat = 45 := by
    unfold sgnL
    rw [decide_eq_true_eq]
    constructor
    · intro h
      have hp : 0 < s.size := by
        rw [← hsl]
        cases hl : s.data.toList with
        | nil => rw [hl] at h; cases h
        | cons x r => simp
      refine ⟨hp, ?_⟩
      have := byte_at hp
      rw [← List.head?_eq_getElem?, h] at this
      injection this with this
      rw [← this]; rfl
    · rintro ⟨hp, h⟩
      rw [List.head?_eq_getElem?, byte_at hp]
      exact congrArg some (u8_ext h)
  have hnum : numL s.data.toList = if sgnL s.data.toList then -((valL (digL s.data.toList) : Nat) : Int) else ((valL (digL s.data.toList) : Nat) : Int) := rfl
  have hbad : badD s.data.toList ↔ (digL s.data.toList = [] ∨ 10 < (digL s.data.toList).length ∨ (digL s.data.toList).all digB = false) := Iff.rfl
  have hito : ¬ badD s.data.toList → (itoS (numL s.data.toList) = s ↔ ¬ zerD s.data.toList) := fun h => ito_iff.trans (itoa_num h)
  have hnp1 : (badD s.data.toList ∨ zerD s.data.toList ∨ outR (numL s.data.toList)) → numP s.data.toList = (0, false) := fun h => by unfold numP; rw [if_pos h]
  have hnp2 : ¬ badD s.data.toList → ¬ zerD s.data.toList → ¬ outR (numL s.data.toList) → numP s.data.toList = (numL s.data.toList, true) := fun h1 h2 h3 => by
    unfold numP; rw [if_neg (by rintro (h | h | h); exact h1 h; exact h2 h; exact h3 h)]
  rw [← hD] at hnum hbad hds
  generalize numP s.data.toList = res at *
  generalize badD s.data.toList = bd at *
  generalize zerD s.data.toList = zd at *
  generalize numL s.data.toList = nu at *
  generalize sgnL s.data.toList = mi at *
  clear hD hsg
  refine enter Tryz.func79 rfl Tryz.ntmps79 rfl (fun a hk => ?_); have hS := St.refl w0
  have no : bd ∨ zd ∨ outR nu → ∀ (a : Act) (w : World) (l : List (Nat × Value)), Kn [] 72 a l → lk l 2 = some (.int .i64 0) → lk l 3 = some (.bool false) → St w0 [] w →
      Done Tryz.prog Tryz.f79 (fun v w => v = .tuple #[.int .i64 res.1, .bool res.2] ∧ St w0 [] w) .ret a w := fun h a w l hk g2 g3 hS =>
    done2 hk (hv := g2) (hv' := g3) (h := ⟨by rw [hnp1 h], hS⟩)
  cases mi with
  | true =>
    obtain ⟨hp, h45⟩ := hs0.1 rfl
    simp only [if_true] at hnum hdd
    have hde : s.extract (1 : Int).toNat s.size = digS s := hdd.symm
    have hx1 : (s.extract (1 : Int).toNat s.size).size = (digS s).size := by rw [hde]
    by_cases h1 : 1 ≤ (digS s).size
    · by_cases h10 : (digS s).size ≤ 10
      · (repeat' (first | (show wpListIn _ _ _ _ _ (_ :: _) _ _; first | (refine wx1 ?_; clear hk a; intro a hk) | (refine wx2 ?_ ?_ <;> (intro hp; clear hk a; intro a hk)) | (refine wx3 ?_; clear hk hS a; intro w b hS a hk) | (refine wx4 ?_; clear hk hS a; intro w hS a hk) | (refine wx5 ?_; clear hk hS a; intro w v hS a hk) | fail) | refine wx0 ?_ | (refine s_end hk ?_; clear hk a; intro a hk) | fail))
        rw [hde] at hk
        clear hde hx1 hdd
        generalize digS s = d at *
        replace hk := Kn.kp [0, 2, 3, 4, 5, 6, 7] hk
        refine wp_for d.size (fun i _ => [(6, .int .i64 (valL (d.data.toList.take i) : Nat)), (7, .int .i64 (i : Int))]) (fun _ _ => []) (fun i _ => (d.data.toList.take i).all digB = true) () hk (by repeat (first | exact trivial | refine ⟨rfl, ?_⟩)) hS.sb (by simp) ?_
        clear hk hS a
        rintro i - a w hi hk hS hF
        have hvs := val_small (l := d.data.toList.take i) (by rw [List.length_take, ← hds]; omega) hF
        by_cases hil : i < d.size
        · have hvt := val_take hil
          have htk := all_take hil digB
          by_cases hdg : 48 ≤ d[i].toNat ∧ d[i].toNat ≤ 57
          · have hb : digB d[i] = true := by unfold digB; rw [decide_eq_true hdg]
            (repeat' (first | (show wpListIn _ _ _ _ _ (_ :: _) _ _; first | (refine wx1 ?_; clear hk a; intro a hk) | (refine wx2 ?_ ?_ <;> (intro hp; clear hk a; intro a hk)) | (refine wx3 ?_; clear hk hS a; intro w b hS a hk) | (refine wx4 ?_; clear hk hS a; intro w hS a hk) | (refine wx5 ?_; clear hk hS a; intro w v hS a hk) | fail) | refine wx0 ?_ | (refine s_end hk ?_; clear hk a; intro a hk) | fail))
            refine sg hk (g_mul hk ?_ (hlo := by omega) (hhi := by omega)); clear hk a; intro a hk
            (repeat' (first | (show wpListIn _ _ _ _ _ (_ :: _) _ _; first | (refine wx1 ?_; clear hk a; intro a hk) | (refine wx2 ?_ ?_ <;> (intro hp; clear hk a; intro a hk)) | (refine wx3 ?_; clear hk hS a; intro w b hS a hk) | (refine wx4 ?_; clear hk hS a; intro w hS a hk) | (refine wx5 ?_; clear hk hS a; intro w v hS a hk) | fail) | refine wx0 ?_ | (refine s_end hk ?_; clear hk a; intro a hk) | fail))
            rw [show (10 : Int) * ((valL (d.data.toList.take i) : Nat) : Int) + ((d[i].toNat : Nat) : Int) - 48 = ((valL (d.data.toList.take (i + 1)) : Nat) : Int) by omega] at hk
            exact ⟨hil, (), hk.sd, hS.sb, by rw [htk, hF, hb]; rfl⟩
          · have hb : digB d[i] = false := by unfold digB; rw [decide_eq_false hdg]
            have hbd := hbad.2 (.inr (.inr (all_no hil hb)))
            (repeat' (first | (show wpListIn _ _ _ _ _ (_ :: _) _ _; first | (refine wx1 ?_; clear hk a; intro a hk) | (refine wx2 ?_ ?_ <;> (intro hp; clear hk a; intro a hk)) | (refine wx3 ?_; clear hk hS a; intro w b hS a hk) | (refine wx4 ?_; clear hk hS a; intro w hS a hk) | (refine wx5 ?_; clear hk hS a; intro w v hS a hk) | fail) | refine wx0 ?_ | (refine s_end hk ?_; clear hk a; intro a hk) | fail))
            all_goals first
              | exact no (.inl hbd) _ _ _ hk rfl rfl hS.nil
              | (exfalso; omega)
        · have : i = d.size := by omega
          subst this
          rw [all_full] at hk hvs hF
          have hnb : ¬ bd := fun h => by
            rcases hbad.1 h with h | h | h
            · exact absurd (hds.trans (by rw [h]; rfl) : d.size = 0) (by omega)
            · exact absurd h (by rw [← hds]; omega)
            · rw [hF] at h; cases h
          have hit := hito hnb
          (repeat' (first | (show wpListIn _ _ _ _ _ (_ :: _) _ _; first | (refine wx1 ?_; clear hk a; intro a hk) | (refine wx2 ?_ ?_ <;> (intro hp; clear hk a; intro a hk)) | (refine wx3 ?_; clear hk hS a; intro w b hS a hk) | (refine wx4 ?_; clear hk hS a; intro w hS a hk) | (refine wx5 ?_; clear hk hS a; intro w v hS a hk) | fail) | refine wx0 ?_ | (refine s_end hk ?_; clear hk a; intro a hk) | fail))
          refine sg hk (g_mul hk ?_ (hlo := by omega) (hhi := by omega)); clear hk a; intro a hk
          rw [show (-1 : Int) * ((valL d.data.toList : Nat) : Int) = nu by omega] at hk
          refine sg hk (g_callO hk (hf := by kernel_rfl) (hc := itoa_any nu (by omega) (by omega) _ (ht.mono hS.below)) (h := ?_)); clear hk a; rintro _ w ⟨rfl, hS1⟩ a hk; replace hS := hS.call0 hS1; clear hS1
          by_cases hz : zd
          · have hne : ¬ itoS nu = s := fun h => (hit.1 h) hz
            (repeat' (first | (show wpListIn _ _ _ _ _ (_ :: _) _ _; first | (refine wx1 ?_; clear hk a; intro a hk) | (refine wx2 ?_ ?_ <;> (intro hp; clear hk a; intro a hk)) | (refine wx3 ?_; clear hk hS a; intro w b hS a hk) | (refine wx4 ?_; clear hk hS a; intro w hS a hk) | (refine wx5 ?_; clear hk hS a; intro w v hS a hk) | fail) | refine wx0 ?_ | (refine s_end hk ?_; clear hk a; intro a hk) | fail))
            all_goals first
              | exact no (.inr (.inl hz)) _ _ _ hk rfl rfl hS.nil
              | (exfalso; contradiction)
          · have heq : itoS nu = s := hit.2 hz
            by_cases ho1 : 2147483647 < nu
            · (repeat' (first | (show wpListIn _ _ _ _ _ (_ :: _) _ _; first | (refine wx1 ?_; clear hk a; intro a hk) | (refine wx2 ?_ ?_ <;> (intro hp; clear hk a; intro a hk)) | (refine wx3 ?_; clear hk hS a; intro w b hS a hk) | (refine wx4 ?_; clear hk hS a; intro w hS a hk) | (refine wx5 ?_; clear hk hS a; intro w v hS a hk) | fail) | refine wx0 ?_ | (refine s_end hk ?_; clear hk a; intro a hk) | fail))
              all_goals first
                | (exfalso; contradiction)
                | skip
              refine sg hk (g_mul hk ?_ (hlo := by omega) (hhi := by omega)); clear hk a; intro a hk
              rw [show (-1 : Int) * ((valL d.data.toList : Nat) : Int) = nu by omega] at hk
              (repeat' (first | (show wpListIn _ _ _ _ _ (_ :: _) _ _; first | (refine wx1 ?_; clear hk a; intro a hk) | (refine wx2 ?_ ?_ <;> (intro hp; clear hk a; intro a hk)) | (refine wx3 ?_; clear hk hS a; intro w b hS a hk) | (refine wx4 ?_; clear hk hS a; intro w hS a hk) | (refine wx5 ?_; clear hk hS a; intro w v hS a hk) | fail) | refine wx0 ?_ | (refine s_end hk ?_; clear hk a; intro a hk) | fail))
              exact no (.inr (.inr (.inr ho1))) _ _ _ hk rfl rfl hS.nil
            · (repeat' (first | (show wpListIn _ _ _ _ _ (_ :: _) _ _; first | (refine wx1 ?_; clear hk a; intro a hk) | (refine wx2 ?_ ?_ <;> (intro hp; clear hk a; intro a hk)) | (refine wx3 ?_; clear hk hS a; intro w b hS a hk) | (refine wx4 ?_; clear hk hS a; intro w hS a hk) | (refine wx5 ?_; clear hk hS a; intro w v hS a hk) | fail) | refine wx0 ?_ | (refine s_end hk ?_; clear hk a; intro a hk) | fail))
              all_goals first
                | (exfalso; contradiction)
                | skip
              refine sg hk (g_mul hk ?_ (hlo := by omega) (hhi := by omega)); clear hk a; intro a hk
              rw [show (-1 : Int) * ((valL d.data.toList : Nat) : Int) = nu by omega] at hk
              (repeat' (first | (show wpListIn _ _ _ _ _ (_ :: _) _ _; first | (refine wx1 ?_; clear hk a; intro a hk) | (refine wx2 ?_ ?_ <;> (intro hp; clear hk a; intro a hk)) | (refine wx3 ?_; clear hk hS a; intro w b hS a hk) | (refine wx4 ?_; clear hk hS a; intro w hS a hk) | (refine wx5 ?_; clear hk hS a; intro w v hS a hk) | fail) | refine wx0 ?_ | (refine s_end hk ?_; clear hk a; intro a hk) | fail))
              refine sg hk (g_mul hk ?_ (hlo := by omega) (hhi := by omega)); clear hk a; intro a hk
              rw [show (-1 : Int) * ((valL d.data.toList : Nat) : Int) = nu by omega] at hk
              by_cases ho2 : nu < -2147483648
              · (repeat' (first | (show wpListIn _ _ _ _ _ (_ :: _) _ _; first | (refine wx1 ?_; clear hk a; intro a hk) | (refine wx2 ?_ ?_ <;> (intro hp; clear hk a; intro a hk)) | (refine wx3 ?_; clear hk hS a; intro w b hS a hk) | (refine wx4 ?_; clear hk hS a; intro w hS a hk) | (refine wx5 ?_; clear hk hS a; intro w v hS a hk) | fail) | refine wx0 ?_ | (refine s_end hk ?_; clear hk a; intro a hk) | fail))
                exact no (.inr (.inr (.inl ho2))) _ _ _ hk rfl rfl hS.nil
              · (repeat' (first | (show wpListIn _ _ _ _ _ (_ :: _) _ _; first | (refine wx1 ?_; clear hk a; intro a hk) | (refine wx2 ?_ ?_ <;> (intro hp; clear hk a; intro a hk)) | (refine wx3 ?_; clear hk hS a; intro w b hS a hk) | (refine wx4 ?_; clear hk hS a; intro w hS a hk) | (refine wx5 ?_; clear hk hS a; intro w v hS a hk) | fail) | refine wx0 ?_ | (refine s_end hk ?_; clear hk a; intro a hk) | fail))
                refine sg hk (g_mul hk ?_ (hlo := by omega) (hhi := by omega)); clear hk a; intro a hk
                rw [show (-1 : Int) * ((valL d.data.toList : Nat) : Int) = nu by omega] at hk
                (repeat' (first | (show wpListIn _ _ _ _ _ (_ :: _) _ _; first | (refine wx1 ?_; clear hk a; intro a hk) | (refine wx2 ?_ ?_ <;> (intro hp; clear hk a; intro a hk)) | (refine wx3 ?_; clear hk hS a; intro w b hS a hk) | (refine wx4 ?_; clear hk hS a; intro w hS a hk) | (refine wx5 ?_; clear hk hS a; intro w v hS a hk) | fail) | refine wx0 ?_ | (refine s_end hk ?_; clear hk a; intro a hk) | fail))
                exact done2 hk (h := ⟨by rw [hnp2 hnb hz (by rintro (h | h) <;> omega)], hS.nil⟩)
      · have hbd := hbad.2 (.inr (.inl (by rw [← hds]; omega)))
        (repeat' (first | (show wpListIn _ _ _ _ _ (_ :: _) _ _; first | (refine wx1 ?_; clear hk a; intro a hk) | (refine wx2 ?_ ?_ <;> (intro hp; clear hk a; intro a hk)) | (refine wx3 ?_; clear hk hS a; intro w b hS a hk) | (refine wx4 ?_; clear hk hS a; intro w hS a hk) | (refine wx5 ?_; clear hk hS a; intro w v hS a hk) | fail) | refine wx0 ?_ | (refine s_end hk ?_; clear hk a; intro a hk) | fail))
        exact no (.inl hbd) _ _ _ hk rfl rfl hS
    · have hbd := hbad.2 (.inl (List.eq_nil_of_length_eq_zero (by rw [← hds]; omega)))
      (repeat' (first | (show wpListIn _ _ _ _ _ (_ :: _) _ _; first | (refine wx1 ?_; clear hk a; intro a hk) | (refine wx2 ?_ ?_ <;> (intro hp; clear hk a; intro a hk)) | (refine wx3 ?_; clear hk hS a; intro w b hS a hk) | (refine wx4 ?_; clear hk hS a; intro w hS a hk) | (refine wx5 ?_; clear hk hS a; intro w v hS a hk) | fail) | refine wx0 ?_ | (refine s_end hk ?_; clear hk a; intro a hk) | fail))
      exact no (.inl hbd) _ _ _ hk rfl rfl hS
  | false =>
    simp only [Bool.false_eq_true, if_false] at hnum hdd
    have hss : digS s = s := hdd
    rw [hss] at hnum hbad hds hdl
    clear hdd hss
    have h45 : ∀ h : 0 < s.size, ¬ (s[0]'h).toNat = 45 := fun hp h => absurd (hs0.2 ⟨hp, h⟩) (by simp)
    by_cases hp : 0 < s.size
    · have h45 := h45 hp
      by_cases h1 : 1 ≤ s.size
      · by_cases h10 : s.size ≤ 10
        · (repeat' (first | (show wpListIn _ _ _ _ _ (_ :: _) _ _; first | (refine wx1 ?_; clear hk a; intro a hk) | (refine wx2 ?_ ?_ <;> (intro hp; clear hk a; intro a hk)) | (refine wx3 ?_; clear hk hS a; intro w b hS a hk) | (refine wx4 ?_; clear hk hS a; intro w hS a hk) | (refine wx5 ?_; clear hk hS a; intro w v hS a hk) | fail) | refine wx0 ?_ | (refine s_end hk ?_; clear hk a; intro a hk) | fail))
          replace hk := Kn.kp [0, 2, 3, 4, 5, 6, 7] hk
          refine wp_for s.size (fun i _ => [(6, .int .i64 (valL (s.data.toList.take i) : Nat)), (7, .int .i64 (i : Int))]) (fun _ _ => []) (fun i _ => (s.data.toList.take i).all digB = true) () hk (by repeat (first | exact trivial | refine ⟨rfl, ?_⟩)) hS.sb (by simp) ?_
          clear hk hS a
          rintro i - a w hi hk hS hF
          have hvs := val_small (l := s.data.toList.take i) (by rw [List.length_take, ← hds]; omega) hF
          by_cases hil : i < s.size
          · have hvt := val_take hil
            have htk := all_take hil digB
            by_cases hdg : 48 ≤ s[i].toNat ∧ s[i].toNat ≤ 57
            · have hb : digB s[i] = true := by unfold digB; rw [decide_eq_true hdg]
              (repeat' (first | (show wpListIn _ _ _ _ _ (_ :: _) _ _; first | (refine wx1 ?_; clear hk a; intro a hk) | (refine wx2 ?_ ?_ <;> (intro hp; clear hk a; intro a hk)) | (refine wx3 ?_; clear hk hS a; intro w b hS a hk) | (refine wx4 ?_; clear hk hS a; intro w hS a hk) | (refine wx5 ?_; clear hk hS a; intro w v hS a hk) | fail) | refine wx0 ?_ | (refine s_end hk ?_; clear hk a; intro a hk) | fail))
              refine sg hk (g_mul hk ?_ (hlo := by omega) (hhi := by omega)); clear hk a; intro a hk
              (repeat' (first | (show wpListIn _ _ _ _ _ (_ :: _) _ _; first | (refine wx1 ?_; clear hk a; intro a hk) | (refine wx2 ?_ ?_ <;> (intro hp; clear hk a; intro a hk)) | (refine wx3 ?_; clear hk hS a; intro w b hS a hk) | (refine wx4 ?_; clear hk hS a; intro w hS a hk) | (refine wx5 ?_; clear hk hS a; intro w v hS a hk) | fail) | refine wx0 ?_ | (refine s_end hk ?_; clear hk a; intro a hk) | fail))
              rw [show (10 : Int) * ((valL (s.data.toList.take i) : Nat) : Int) + ((s[i].toNat : Nat) : Int) - 48 = ((valL (s.data.toList.take (i + 1)) : Nat) : Int) by omega] at hk
              exact ⟨hil, (), hk.sd, hS.sb, by rw [htk, hF, hb]; rfl⟩
            · have hb : digB s[i] = false := by unfold digB; rw [decide_eq_false hdg]
              have hbd := hbad.2 (.inr (.inr (all_no hil hb)))
              (repeat' (first | (show wpListIn _ _ _ _ _ (_ :: _) _ _; first | (refine wx1 ?_; clear hk a; intro a hk) | (refine wx2 ?_ ?_ <;> (intro hp; clear hk a; intro a hk)) | (refine wx3 ?_; clear hk hS a; intro w b hS a hk) | (refine wx4 ?_; clear hk hS a; intro w hS a hk) | (refine wx5 ?_; clear hk hS a; intro w v hS a hk) | fail) | refine wx0 ?_ | (refine s_end hk ?_; clear hk a; intro a hk) | fail))
              all_goals first
                | exact no (.inl hbd) _ _ _ hk rfl rfl hS.nil
                | (exfalso; omega)
          · have : i = s.size := by omega
            subst this
            rw [all_full] at hk hvs hF
            have hnb : ¬ bd := fun h => by
              rcases hbad.1 h with h | h | h
              · exact absurd (hds.trans (by rw [h]; rfl) : s.size = 0) (by omega)
              · exact absurd h (by rw [← hds]; omega)
              · rw [hF] at h; cases h
            have hit := hito hnb
            (repeat' (first | (show wpListIn _ _ _ _ _ (_ :: _) _ _; first | (refine wx1 ?_; clear hk a; intro a hk) | (refine wx2 ?_ ?_ <;> (intro hp; clear hk a; intro a hk)) | (refine wx3 ?_; clear hk hS a; intro w b hS a hk) | (refine wx4 ?_; clear hk hS a; intro w hS a hk) | (refine wx5 ?_; clear hk hS a; intro w v hS a hk) | fail) | refine wx0 ?_ | (refine s_end hk ?_; clear hk a; intro a hk) | fail))
            refine sg hk (g_mul hk ?_ (hlo := by omega) (hhi := by omega)); clear hk a; intro a hk
            rw [show (1 : Int) * ((valL s.data.toList : Nat) : Int) = nu by omega] at hk
            refine sg hk (g_callO hk (hf := by kernel_rfl) (hc := itoa_any nu (by omega) (by omega) _ (ht.mono hS.below)) (h := ?_)); clear hk a; rintro _ w ⟨rfl, hS1⟩ a hk; replace hS := hS.call0 hS1; clear hS1
            by_cases hz : zd
            · have hne : ¬ itoS nu = s := fun h => (hit.1 h) hz
              (repeat' (first | (show wpListIn _ _ _ _ _ (_ :: _) _ _; first | (refine wx1 ?_; clear hk a; intro a hk) | (refine wx2 ?_ ?_ <;> (intro hp; clear hk a; intro a hk)) | (refine wx3 ?_; clear hk hS a; intro w b hS a hk) | (refine wx4 ?_; clear hk hS a; intro w hS a hk) | (refine wx5 ?_; clear hk hS a; intro w v hS a hk) | fail) | refine wx0 ?_ | (refine s_end hk ?_; clear hk a; intro a hk) | fail))
              all_goals first
                | exact no (.inr (.inl hz)) _ _ _ hk rfl rfl hS.nil
                | (exfalso; contradiction)
            · have heq : itoS nu = s := hit.2 hz
              by_cases ho1 : 2147483647 < nu
              · (repeat' (first | (show wpListIn _ _ _ _ _ (_ :: _) _ _; first | (refine wx1 ?_; clear hk a; intro a hk) | (refine wx2 ?_ ?_ <;> (intro hp; clear hk a; intro a hk)) | (refine wx3 ?_; clear hk hS a; intro w b hS a hk) | (refine wx4 ?_; clear hk hS a; intro w hS a hk) | (refine wx5 ?_; clear hk hS a; intro w v hS a hk) | fail) | refine wx0 ?_ | (refine s_end hk ?_; clear hk a; intro a hk) | fail))
                all_goals first
                  | (exfalso; contradiction)
                  | skip
                refine sg hk (g_mul hk ?_ (hlo := by omega) (hhi := by omega)); clear hk a; intro a hk
                rw [show (1 : Int) * ((valL s.data.toList : Nat) : Int) = nu by omega] at hk
                (repeat' (first | (show wpListIn _ _ _ _ _ (_ :: _) _ _; first | (refine wx1 ?_; clear hk a; intro a hk) | (refine wx2 ?_ ?_ <;> (intro hp; clear hk a; intro a hk)) | (refine wx3 ?_; clear hk hS a; intro w b hS a hk) | (refine wx4 ?_; clear hk hS a; intro w hS a hk) | (refine wx5 ?_; clear hk hS a; intro w v hS a hk) | fail) | refine wx0 ?_ | (refine s_end hk ?_; clear hk a; intro a hk) | fail))
                exact no (.inr (.inr (.inr ho1))) _ _ _ hk rfl rfl hS.nil
              · (repeat' (first | (show wpListIn _ _ _ _ _ (_ :: _) _ _; first | (refine wx1 ?_; clear hk a; intro a hk) | (refine wx2 ?_ ?_ <;> (intro hp; clear hk a; intro a hk)) | (refine wx3 ?_; clear hk hS a; intro w b hS a hk) | (refine wx4 ?_; clear hk hS a; intro w hS a hk) | (refine wx5 ?_; clear hk hS a; intro w v hS a hk) | fail) | refine wx0 ?_ | (refine s_end hk ?_; clear hk a; intro a hk) | fail))
                all_goals first
                  | (exfalso; contradiction)
                  | skip
                refine sg hk (g_mul hk ?_ (hlo := by omega) (hhi := by omega)); clear hk a; intro a hk
                rw [show (1 : Int) * ((valL s.data.toList : Nat) : Int) = nu by omega] at hk
                (repeat' (first | (show wpListIn _ _ _ _ _ (_ :: _) _ _; first | (refine wx1 ?_; clear hk a; intro a hk) | (refine wx2 ?_ ?_ <;> (intro hp; clear hk a; intro a hk)) | (refine wx3 ?_; clear hk hS a; intro w b hS a hk) | (refine wx4 ?_; clear hk hS a; intro w hS a hk) | (refine wx5 ?_; clear hk hS a; intro w v hS a hk) | fail) | refine wx0 ?_ | (refine s_end hk ?_; clear hk a; intro a hk) | fail))
                refine sg hk (g_mul hk ?_ (hlo := by omega) (hhi := by omega)); clear hk a; intro a hk
                rw [show (1 : Int) * ((valL s.data.toList : Nat) : Int) = nu by omega] at hk
                by_cases ho2 : nu < -2147483648
                · (repeat' (first | (show wpListIn _ _ _ _ _ (_ :: _) _ _; first | (refine wx1 ?_; clear hk a; intro a hk) | (refine wx2 ?_ ?_ <;> (intro hp; clear hk a; intro a hk)) | (refine wx3 ?_; clear hk hS a; intro w b hS a hk) | (refine wx4 ?_; clear hk hS a; intro w hS a hk) | (refine wx5 ?_; clear hk hS a; intro w v hS a hk) | fail) | refine wx0 ?_ | (refine s_end hk ?_; clear hk a; intro a hk) | fail))
                  exact no (.inr (.inr (.inl ho2))) _ _ _ hk rfl rfl hS.nil
                · (repeat' (first | (show wpListIn _ _ _ _ _ (_ :: _) _ _; first | (refine wx1 ?_; clear hk a; intro a hk) | (refine wx2 ?_ ?_ <;> (intro hp; clear hk a; intro a hk)) | (refine wx3 ?_; clear hk hS a; intro w b hS a hk) | (refine wx4 ?_; clear hk hS a; intro w hS a hk) | (refine wx5 ?_; clear hk hS a; intro w v hS a hk) | fail) | refine wx0 ?_ | (refine s_end hk ?_; clear hk a; intro a hk) | fail))
                  refine sg hk (g_mul hk ?_ (hlo := by omega) (hhi := by omega)); clear hk a; intro a hk
                  rw [show (1 : Int) * ((valL s.data.toList : Nat) : Int) = nu by omega] at hk
                  (repeat' (first | (show wpListIn _ _ _ _ _ (_ :: _) _ _; first | (refine wx1 ?_; clear hk a; intro a hk) | (refine wx2 ?_ ?_ <;> (intro hp; clear hk a; intro a hk)) | (refine wx3 ?_; clear hk hS a; intro w b hS a hk) | (refine wx4 ?_; clear hk hS a; intro w hS a hk) | (refine wx5 ?_; clear hk hS a; intro w v hS a hk) | fail) | refine wx0 ?_ | (refine s_end hk ?_; clear hk a; intro a hk) | fail))
                  exact done2 hk (h := ⟨by rw [hnp2 hnb hz (by rintro (h | h) <;> omega)], hS.nil⟩)
        · have hbd := hbad.2 (.inr (.inl (by rw [← hds]; omega)))
          (repeat' (first | (show wpListIn _ _ _ _ _ (_ :: _) _ _; first | (refine wx1 ?_; clear hk a; intro a hk) | (refine wx2 ?_ ?_ <;> (intro hp; clear hk a; intro a hk)) | (refine wx3 ?_; clear hk hS a; intro w b hS a hk) | (refine wx4 ?_; clear hk hS a; intro w hS a hk) | (refine wx5 ?_; clear hk hS a; intro w v hS a hk) | fail) | refine wx0 ?_ | (refine s_end hk ?_; clear hk a; intro a hk) | fail))
          exact no (.inl hbd) _ _ _ hk rfl rfl hS
      · have hbd := hbad.2 (.inl (List.eq_nil_of_length_eq_zero (by rw [← hds]; omega)))
        (repeat' (first | (show wpListIn _ _ _ _ _ (_ :: _) _ _; first | (refine wx1 ?_; clear hk a; intro a hk) | (refine wx2 ?_ ?_ <;> (intro hp; clear hk a; intro a hk)) | (refine wx3 ?_; clear hk hS a; intro w b hS a hk) | (refine wx4 ?_; clear hk hS a; intro w hS a hk) | (refine wx5 ?_; clear hk hS a; intro w v hS a hk) | fail) | refine wx0 ?_ | (refine s_end hk ?_; clear hk a; intro a hk) | fail))
        exact no (.inl hbd) _ _ _ hk rfl rfl hS
    · have hb : bd := hbad.2 (.inl (List.eq_nil_of_length_eq_zero (by rw [← hds]; omega)))
      (repeat' (first | (show wpListIn _ _ _ _ _ (_ :: _) _ _; first | (refine wx1 ?_; clear hk a; intro a hk) | (refine wx2 ?_ ?_ <;> (intro hp; clear hk a; intro a hk)) | (refine wx3 ?_; clear hk hS a; intro w b hS a hk) | (refine wx4 ?_; clear hk hS a; intro w hS a hk) | (refine wx5 ?_; clear hk hS a; intro w v hS a hk) | fail) | refine wx0 ?_ | (refine s_end hk ?_; clear hk a; intro a hk) | fail))
      exact no (.inl hb) _ _ _ hk rfl rfl hS
end Go.Proofs.YtipdgobplfkipaaGreatDoor
namespace Go.Proofs.YtipdgobplfkipaaGreatDoor

theorem baeq {a b : ByteArray} (h : a.data.toList = b.data.toList) : a = b := ByteArray.ext (Array.ext' h)
theorem good_inj {x y : ByteArray} (hx : GoodK x) (hy : GoodK y) (h : keyP x = keyP y) : x = y := by
  have k1 : ∀ {z : ByteArray}, z = ⟨#[35]⟩ → keyP z = z ∧ z.data.toList = [35] := fun {z} e => by subst e; exact ⟨rfl, rfl⟩
  have k2 : ∀ {z : ByteArray} {c : UInt8} {r : List UInt8}, c ≠ 33 → z.data.toList = c :: r → keyP z = z := fun {z c r} hc e => by
    unfold keyP; rw [e]; split
    · rename_i h; injection h with h _; exact absurd h hc
    · rfl
  have k3 : ∀ {z : ByteArray} {r : List UInt8}, z.data.toList = 33 :: r → (keyP z).data.toList = r := fun {z r} e => by
    unfold keyP; rw [e]; show (⟨r.toArray⟩ : ByteArray).data.toList = r; simp
  have n64 : (64 : UInt8) ≠ 33 := by decide
  have n61 : (61 : UInt8) ≠ 33 := by decide
  have plain : ∀ {z : ByteArray}, GoodK z → (keyP z = z ∧ ∃ c r, z.data.toList = c :: r ∧ (c.toNat = 35 ∨ c.toNat = 64 ∨ c.toNat = 61)) ∨ (∃ c q, z.data.toList = 33 :: c :: q ∧ (keyP z).data.toList = c :: q ∧ c.toNat ≠ 35 ∧ c.toNat ≠ 64 ∧ c.toNat ≠ 61) := by
    intro z hz
    rcases hz with hz | ⟨r, hz⟩ | ⟨r, hz⟩ | ⟨r, hz, c, q, hr, h1, h2, h3, _⟩
    · exact .inl ⟨(k1 hz).1, 35, [], (k1 hz).2, .inl rfl⟩
    · exact .inl ⟨k2 n64 hz, 64, r, hz, .inr (.inl rfl)⟩
    · exact .inl ⟨k2 n61 hz, 61, r, hz, .inr (.inr rfl)⟩
    · subst hr; exact .inr ⟨c, q, hz, k3 hz, h1, h2, h3⟩
  rcases plain hx with ⟨a1, c, r, a2, a3⟩ | ⟨c, q, a1, a2, a3, a4, a5⟩
  · rcases plain hy with ⟨b1, _⟩ | ⟨c', q', b1, b2, b3, b4, b5⟩
    · rw [a1, b1] at h; exact h
    · rw [a1] at h
      rw [← h, a2] at b2
      injection b2 with e _
      subst e
      omega
  · rcases plain hy with ⟨b1, c', r', b2, b3⟩ | ⟨c', q', b1, b2, _⟩
    · rw [b1] at h
      rw [h, b2] at a2
      injection a2 with e _
      subst e
      omega
    · rw [h, b2] at a2
      exact baeq (by rw [a1, b1, a2])
theorem key_mem {seen : List ByteArray} {x : ByteArray} (hs : ∀ y ∈ seen, GoodK y) (hx : GoodK x) : keyP x ∈ seen.map keyP ↔ x ∈ seen := by
  constructor
  · intro h
    obtain ⟨y, hy, e⟩ := List.mem_map.1 h
    rw [← good_inj (hs y hy) hx e]; exact hy
  · exact fun h => List.mem_map.2 ⟨x, h, rfl⟩
abbrev toP (y : Itm × List ByteArray) : Itm × List ByteArray := (y.1, y.2.map keyP)
def fromO (seen : List ByteArray) (m : Option Itm) (x : Option ByteArray) : Option (Itm × List ByteArray) := match m with
  | none => none
  | some m => match x with
    | none => some (m, seen)
    | some x => if seen.any (fun y => decide (y = x)) = true then none else some (m, seen ++ [x])
theorem item_from (n : Itm) (w : ByteArray) (seen : List ByteArray) : itemF n w seen = fromO seen (addF n w) (whatF w) := rfl
theorem from_once {seen : List ByteArray} {m : Itm} {x : ByteArray} (hs : ∀ y ∈ seen, GoodK y) (hx : GoodK x) : (fromO seen (some m) (some x)).map toP = onceP (seen.map keyP) (some (m, keyP x)) := by
  show (if seen.any (fun y => decide (y = x)) = true then none else some (m, seen ++ [x])).map toP = _
  by_cases h : x ∈ seen
  · rw [if_pos (any_mem.2 h), once_in ((key_mem hs hx).2 h)]; rfl
  · rw [if_neg (fun h' => h (any_mem.1 h')), once_out (fun h' => h ((key_mem hs hx).1 h'))]; simp [toP]
theorem cut_cons {w : ByteArray} {c : UInt8} {r : List UInt8} (hw : w.data.toList = c :: r) (hc : c.toNat ≠ 61) : cutR 61 w = (⟨#[c]⟩ ++ (cutR 61 (w.extract 1 w.size)).1, (cutR 61 (w.extract 1 w.size)).2) := by
  have hsz : w.size = r.length + 1 := by have : w.data.toList.length = w.size := by simp
                                         rw [← this, hw]; rfl
  have h0 : 0 < w.size := by omega
  have hw0 : w[0] = c := by have := drop_cons h0; rw [List.drop_zero, hw] at this; injection this with e _; exact e.symm
  have h1 := scan_ext (notB 61) w 1 (by omega) _ 0 (Nat.le_refl _)
  have h2 : scan (notB 61) w 0 = scan (notB 61) w 1 := scan_yes h0 (by rw [hw0]; simp only [notB, Bool.not_eq_true', decide_eq_false_iff_not]; exact hc)
  have hz : (w.extract 1 w.size).size = w.size - 1 := by rw [ByteArray.size_extract]; omega
  unfold cutR
  rw [h2, hz]
  rw [show 1 + 0 = 1 from rfl] at h1
  generalize scan (notB 61) (w.extract 1 w.size) 0 = j at *
  rw [← h1]
  by_cases h : j + 1 < w.size
  · rw [if_pos h, if_pos (by omega)]
    refine Prod.ext ?_ (Prod.ext ?_ rfl)
    · apply baeq
      simp [ByteArray.data_append, ByteArray.data_extract, hw]
      omega
    · apply baeq
      show (w.extract (j + 1 + 1) w.size).data.toList = ((w.extract 1 w.size).extract (j + 1) (w.size - 1)).data.toList
      rw [ByteArray.extract_extract, show 1 + (j + 1) = j + 1 + 1 by omega, show min (1 + (w.size - 1)) w.size = w.size by omega]
  · have h' : ¬ j < w.size - 1 := fun hh => h (by omega)
    rw [if_neg h, if_neg h']
    refine Prod.ext ?_ rfl
    apply baeq
    simp [ByteArray.data_append, ByteArray.data_extract, hw, hsz]
theorem mark_eq {w : ByteArray} {r : List UInt8} (hw : w.data.toList = 33 :: r) (k : List UInt8) : w = ⟨⟨33 :: k⟩⟩ ↔ w.extract 1 w.size = ⟨⟨k⟩⟩ := by
  have hsz : w.size = r.length + 1 := by have : w.data.toList.length = w.size := by simp
                                         rw [← this, hw]; rfl
  have he : (w.extract 1 w.size).data.toList = r := by simp [ByteArray.data_extract, hw, hsz]
  constructor
  · intro e
    apply baeq
    rw [he]
    have : w.data.toList = 33 :: k := by rw [e]
    rw [hw] at this
    injection this
  · intro e
    apply baeq
    rw [hw]
    have : (w.extract 1 w.size).data.toList = k := by rw [e]
    rw [he] at this
    rw [this]
end Go.Proofs.YtipdgobplfkipaaGreatDoor
namespace Go.Proofs.YtipdgobplfkipaaGreatDoor
open Go.RowKit
section
variable {P : Program} {Q : Exit → Act → World → Prop} {a : Act} {w w' : World} {n : Nat} {l : List (Nat × Value)} {df : List Deferred} {rr : Option Nat} {ops : Array Oper} {K : Act → World → Prop}
  {d : Nat} {dst : Option Nat} {ty : TypeId} {pos : String} {af : Array Edge} {g : Option (Nat × Bool)} {K1 : Act → World → Prop} {S1 : List PanicEntry → World → Prop}
def QX (df : List Deferred) (K1 : Act → World → Prop) (S1 : List PanicEntry → World → Prop) (e : Exit) (a : Act) (w : World) : Prop := (e = .normal ∧ K1 a w) ∨ ∃ ch, e = .panic ch ∧ a.defers = df ∧ S1 ch w
theorem QX.normal (h : K1 a w) : QX df K1 S1 .normal a w := .inl ⟨rfl, h⟩
theorem QX.panic {ch : List PanicEntry} (hk : Kn df n a l) (h : S1 ch w) : QX df K1 S1 (.panic ch) a w := .inr ⟨ch, rfl, hk.defers, h⟩
theorem qx_put {o : Option Nat} {v : Value} {c : List PanicEntry} (h : QX df K1 S1 (.panic c) (a.put o v) w) : QX df K1 S1 (.panic c) a w := by
  rcases h with ⟨h, _⟩ | ⟨ch, h1, h2, h3⟩
  · cases h
  · refine .inr ⟨ch, h1, ?_, h3⟩
    rw [← h2]; cases o <;> rfl
theorem an_region {id : Nat} (K1 : Act → World → Prop) (S1 : List PanicEntry → World → Prop) (hk : Kn df n a l) (hm : P.follows .mixedOrders = true) (hn : ∀ a w, K1 a w → Q .normal a w) (hp : ∀ ch a w, a.defers = df → S1 ch w → Q (.panic ch) a w)
    (h : Any rr P ops (QX df K1 S1) ops.size (Array.replicate ops.size false) a w.drew) : (Code.region id ops true).wpIn (FR rr) 0 P Q a w := by
  refine wpIn_mono (wpIn_region_any (Q := QX df K1 S1) hm h) (fun e a w hq => ?_)
  rcases hq with ⟨rfl, h⟩ | ⟨ch, rfl, h1, h2⟩
  · exact hn _ _ h
  · exact hp _ _ _ h1 h2
theorem an_take {o : Op} {k i : Nat} {v : Value} {listed : Array Bool} (ho : ops[i]? = some ⟨some d, o, ty, pos, af, none⟩) (hk : Kn df n a l) (hs : Region.noSelect ops = true) (hf : Region.free .any ops listed i = true) (hr : (Region.ready .any ops listed).contains i = true)
    (hp : ∀ w, (execOp a.eval ⟨some d, o, ty, pos, af, none⟩).run P w = .ok (.value v) w) (hab : ∀ w, (⟨some d, o, ty, pos, af, none⟩ : Oper).about P w a.eval = none) (hd : Nat.blt d n = true)
    (h : ∀ a', Kn df n a' ((d, v) :: l) → Any rr P ops (QX df K1 S1) k (listed.setIfInBounds i true) a' w) (hro : rr = none) : Any rr P ops (QX df K1 S1) (k + 1) listed a w := by
  subst hro
  exact wpAnyIn_take (F := FR none) rfl ho hs hf hr (fun c a w => qx_put) ⟨.inl ⟨wanted_none rfl _, hp⟩, hab⟩ (h _ (hk.put (d := some d) hd v))
theorem an_cut {k0 : Nat} {l0 : Array Bool} (J : Act → World → Prop) (k : Nat) (listed : Array Bool) (hJ : ∀ a w, J a w → Any rr P ops Q k listed a w) (h : (∀ a w, J a w → Any rr P ops Q k listed a w) → Any rr P ops Q k0 l0 a w) : Any rr P ops Q k0 l0 a w := h hJ
theorem wp_mid {x y : Code} (R' : Act → World → Prop) (h1 : x.wpIn (FR rr) 0 P (Exit.then R' Q) a w) (h2 : ∀ a w, R' a w → y.wpIn (FR rr) 0 P Q a w) : (Code.seq x y).wpIn (FR rr) 0 P Q a w :=
  wpIn_seq (wpIn_mono h1 (fun e a w h => by cases e <;> first | exact h2 _ _ h | exact h))
theorem y_move {x : Operand} {v : Value} (hk : Kn df n a l) (hx : ev l x = some v) : ∀ w, (execOp a.eval ⟨dst, .move x, ty, pos, af, g⟩).run P w = .ok (.value v) w := fun w => by rw [← hk.eval hx]; rfl
theorem y_field {x : Operand} {T : TypeId} {f b o off sz : Nat} (hk : Kn df n a l) (hf : fldOf P T f = some (off, sz + 1)) (hx : ev l x = some (.pointer (some ⟨b, o, none⟩))) :
    ∀ w, (execOp a.eval ⟨dst, .fieldAddr T x f, ty, pos, af, g⟩).run P w = .ok (.value (.pointer (some ⟨b, o + off, none⟩))) w := fun w => by
  unfold fldOf at hf
  cases hu : P.underlying T with
  | none => rw [hu] at hf; simp at hf
  | some dsc =>
    rw [hu] at hf
    cases dsc <;> simp only [reduceCtorEq] at hf
    case struct fs =>
      cases hfs : fs[f]? with
      | none => rw [hfs] at hf; simp at hf
      | some fl =>
        rw [hfs] at hf
        simp only [Option.some.injEq, Prod.mk.injEq] at hf
        obtain ⟨h1, h2⟩ := hf
        have h3 : szOf P fl.type = some (sz + 1) := by
          cases hz : szOf P fl.type with
          | none => rw [hz] at h2; simp at h2
          | some z => rw [hz] at h2; simp at h2; rw [h2]
        simp [execOp, hk.eval hx, Instr.fieldAt, run_underlying hu, hfs, Instr.sureAddr, fieldPlace, szOf_run h3, h1, addr_add]
theorem y_len {x : Operand} {t E m c : Nat} {ao : Option Addr} (hk : Kn df n a l) (ht : elOf P t = some E) (hx : ev l x = some (.slice ao m c)) :
    ∀ w, (execOp a.eval ⟨dst, .call { callee := .builtin .len, args := #[x], argTypes := #[t] }, ty, pos, af, g⟩).run P w = .ok (.value (.int .i64 m)) w := fun w => by
  simp [execOp, resolve, invoke, builtin, hk.eval hx, Builtin.len_, run_underlying (elOf_und ht), goInt]
theorem ab_len {x : Operand} {ts : Array TypeId} {ρ : Operand → Value} : ∀ w, (⟨dst, .call { callee := .builtin .len, args := #[x], argTypes := ts }, ty, pos, af, g⟩ : Oper).about P w ρ = none := fun w => by
  simp [Oper.about, resolve, Target.leads]
end
end Go.Proofs.YtipdgobplfkipaaGreatDoor
