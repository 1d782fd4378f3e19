/- Layer 8: the program's reader: a text between quotes. Layer 2: of digits the number. Layer 8: the program's reader: what was seen of an element's words; its attributes and styles. Layer 8, plain: a word of an element's, as the program takes it. -/
import Derived.Test.YtipdgobplfkipaaGreatDoorR08
import Derived.Test.YtipdgobplfkipaaGreatDoorR10
set_option linter.all false
namespace Go.Proofs.YtipdgobplfkipaaGreatDoor
open Go.RowKit
set_option maxRecDepth 100000
attribute [local irreducible] Go.Code.wpIn Go.wpListIn Go.Calls Gives Go.Exit.then Go.Exit.inBlock Done ObxE

abbrev nd0 : List Value := [.int .i64 0, .string ⟨#[]⟩, .string ⟨#[]⟩, .string ⟨#[]⟩, .slice none 0 0, .slice none 0 0, .slice none 0 0, .int .i64 0, .int .i64 0, .int .i64 0, .int .i64 0, .bool false, .bool false, .slice none 0 0]
section
variable {B : Bs} {L : List HP} {w : World}
theorem leaf_of {x : ByteArray} (hS : St B L w) : St B (treeH (.mk 1 ⟨#[]⟩ ⟨#[]⟩ x [] [] [] o0 []) (.agg #[.int .i64 1, .string ⟨#[]⟩, .string ⟨#[]⟩, .string x, .slice none 0 0, .slice none 0 0, .slice none 0 0, .int .i64 0, .int .i64 0, .int .i64 0, .int .i64 0, .bool false, .bool false, .slice none 0 0]) :: L) w := by
  have hS1 := (((hS.nilT 9 ByteArray).nilT 76 (ByteArray × ByteArray)).nilT 77 (ByteArray × Int)).nilT 33 NdH
  exact treeH.of (h := (1, ⟨#[]⟩, ⟨#[]⟩, x, ⟨none, 0, 0⟩, ⟨none, 0, 0⟩, ⟨none, 0, 0⟩, o0, ⟨none, 0, 0⟩)) (treeR.of (A1 := OwT 9 ([] : List ByteArray) (.slice none 0 0)) (A2 := OwT 76 ([] : List (ByteArray × ByteArray)) (.slice none 0 0)) (A3 := OwT 77 ([] : List (ByteArray × Int)) (.slice none 0 0)) (A4 := OwT 33 ([] : List NdH) (.slice none 0 0)) (H := []) (kids := []) ((forR.nil hS1).sub (.cons (by (repeat (first | exact At.here | apply At.there))) (.cons (by (repeat (first | exact At.here | apply At.there))) (.cons (by (repeat (first | exact At.here | apply At.there))) (.cons (by (repeat (first | exact At.here | apply At.there))) (.cons (by (repeat (first | exact At.here | apply At.there))) .refl)))))))

set_option maxHeartbeats 4000000 in
theorem rtext_any (br : Nat) (s : ByteArray) (i o : Nat) (hs : s.size ≤ 100000000) (hi : i < s.size) (hq : s[i].toNat = 39) (hS : St B (rdr br s i o :: L) w) :
    Calls Tryz.prog 49 #[.pointer (some ⟨br, 0, none⟩)] w
      (RoP (fun v w' => (tokF s i).kind = 3 ∧ St B (treeH (.mk 1 ⟨#[]⟩ ⟨#[]⟩ (tokF s i).txt [] [] [] o0 []) v :: rdr br s (tokF s i).till o :: L) w')
        (fun ch w' => (tokF s i).kind = 5 ∧ ch = thrown (tokF s i).at_ 2 ∧ St B L w')) := by
  have hsc : scan blkB s i = i := scan_no hi (by unfold blkB; rw [decide_eq_false (by omega)]; decide)
  have t3 := @tok_3 s i (by omega) (by simp only [hsc]; exact hq)
  have t5 := @tok_5 s i (by omega) (by simp only [hsc]; exact hq)
  simp only [hsc] at t3 t5
  obtain ⟨q1, q2⟩ := cut_quote s (i + 1) (by omega)
  obtain ⟨q3, -⟩ := cut_le 39 (s.extract (i + 1) s.size)
  have hge := scan_ge nqB s _ (i + 1) (Nat.le_refl _)
  have hxs : (s.extract (i + 1) s.size).size ≤ s.size := by simp only [ByteArray.size_extract]; omega
  refine enterP Tryz.func49 rfl Tryz.ntmps49 rfl (fun a hk => ?_)
  (repeat' (first | (show wpListIn _ _ _ _ _ (_ :: _) _ _; first | (refine wx1 ?_; clear hk a; intro a hk) | (refine wx2 ?_ ?_ <;> (intro hp; clear hk a; intro a hk)) | (refine wx3 ?_; clear hk hS a; intro w b hS a hk) | (refine wx4 ?_; clear hk hS a; intro w hS a hk) | (refine wx5 ?_; clear hk hS a; intro w v hS a hk) | fail) | refine wx0 ?_ | (refine s_end hk ?_; clear hk a; intro a hk) | fail))
  rw [show ((i : Int) + 1).toNat = i + 1 by omega] at hk
  refine sg hk (g_callO hk (hf := by kernel_rfl) (hc := scut_any (s.extract (i + 1) s.size) 39 (by omega) _) (h := ?_)); clear hk a; rintro _ w ⟨rfl, hS1⟩ a hk; replace hS := hS.call0 hS1; clear hS1
  generalize (cutR 39 (s.extract (i + 1) s.size)).2.2 = found at *
  generalize (cutR 39 (s.extract (i + 1) s.size)).2.1 = aft at *
  generalize (cutR 39 (s.extract (i + 1) s.size)).1 = x at *
  (repeat' (first | (show wpListIn _ _ _ _ _ (_ :: _) _ _; first | (refine wx1 ?_; clear hk a; intro a hk) | (refine wx2 ?_ ?_ <;> (intro hp; clear hk a; intro a hk)) | (refine wx3 ?_; clear hk hS a; intro w b hS a hk) | (refine wx4 ?_; clear hk hS a; intro w hS a hk) | (refine wx5 ?_; clear hk hS a; intro w v hS a hk) | fail) | refine wx0 ?_ | (refine s_end hk ?_; clear hk a; intro a hk) | fail))
  refine sg hk (g_bytes (s := x) hk hS (by simp only [maxLen]; omega) ?_ (ht := sT rfl) (hd := eT rfl) (he := iT rfl)); clear hk hS a; intro w b2 cap fr hc1 hc2 hS a hk
  have hby0 := bys_rd (obj.block (hS.rd (A := obj b2 (.cells (bytesRow x cap) 5 fr)) (by (repeat (first | exact At.here | apply At.there))))) hc1 hc2
  have hbl := bys_len x
  (repeat' (first | (show wpListIn _ _ _ _ _ (_ :: _) _ _; first | (refine wx1 ?_; clear hk a; intro a hk) | (refine wx2 ?_ ?_ <;> (intro hp; clear hk a; intro a hk)) | (refine wx3 ?_; clear hk hS a; intro w b hS a hk) | (refine wx4 ?_; clear hk hS a; intro w hS a hk) | (refine wx5 ?_; clear hk hS a; intro w v hS a hk) | fail) | refine wx0 ?_ | (refine s_end hk ?_; clear hk a; intro a hk) | fail))
  rw [hbl] at hk
  replace hk := Kn.kp [0, 2, 3, 4, 6, 26, 27, 28] hk
  refine wp_for x.size (fun n (ok : Bool) => [(6, .bool ok), (28, .int .i64 (n : Int))]) (fun _ _ => obj b2 (.cells (bytesRow x cap) 5 fr) :: pts b nd0 33 :: rdr br s i o :: L) (fun n ok => ok = (found && (x.data.toList.take n).all priL)) found hk (by repeat (first | exact trivial | refine ⟨rfl, ?_⟩)) hS.sb (by simp) ?_
  clear hk hS a
  rintro n ok a w hn hk hS hF
  have hby := bys_rd (obj.block (hS.rd (A := obj b2 (.cells (bytesRow x cap) 5 fr)) (by (repeat (first | exact At.here | apply At.there))))) hc1 hc2
  by_cases hil : n < x.size
  · have hx : (bysF x)[n]? = some x[n] := byte_at hil
    have htk := all_take hil priL
    cases ok with
    | false =>
      (repeat' (first | (show wpListIn _ _ _ _ _ (_ :: _) _ _; first | (refine wx1 ?_; clear hk a; intro a hk) | (refine wx2 ?_ ?_ <;> (intro hp; clear hk a; intro a hk)) | (refine wx3 ?_; clear hk hS a; intro w b hS a hk) | (refine wx4 ?_; clear hk hS a; intro w hS a hk) | (refine wx5 ?_; clear hk hS a; intro w v hS a hk) | fail) | refine wx0 ?_ | (refine s_end hk ?_; clear hk a; intro a hk) | fail))
      exact ⟨hil, false, hk.sd, hS.sb, by rw [htk, ← Bool.and_assoc, ← hF]; rfl⟩
    | true =>
      (repeat' (first | (show wpListIn _ _ _ _ _ (_ :: _) _ _; first | (refine wx1 ?_; clear hk a; intro a hk) | (refine wx2 ?_ ?_ <;> (intro hp; clear hk a; intro a hk)) | (refine wx3 ?_; clear hk hS a; intro w b hS a hk) | (refine wx4 ?_; clear hk hS a; intro w hS a hk) | (refine wx5 ?_; clear hk hS a; intro w v hS a hk) | fail) | refine wx0 ?_ | (refine s_end hk ?_; clear hk a; intro a hk) | fail))
      all_goals first
        | exact ⟨hil, true, hk.sd, hS.sb, by rw [htk, ← Bool.and_assoc, ← hF]; unfold priL; rw [decide_eq_true (by omega)]; rfl⟩
        | exact ⟨hil, false, hk.sd, hS.sb, by rw [htk, ← Bool.and_assoc, ← hF]; unfold priL; rw [decide_eq_false (by omega)]; rfl⟩
  · have : n = x.size := by omega
    subst this
    rw [all_full] at hF
    cases ok with
    | false =>
      have h5 := t5 (fun ⟨h1, h2⟩ => by
        rw [q1, decide_eq_true h1, q2 h1, h2] at hF
        cases hF)
      (repeat' (first | (show wpListIn _ _ _ _ _ (_ :: _) _ _; first | (refine wx1 ?_; clear hk a; intro a hk) | (refine wx2 ?_ ?_ <;> (intro hp; clear hk a; intro a hk)) | (refine wx3 ?_; clear hk hS a; intro w b hS a hk) | (refine wx4 ?_; clear hk hS a; intro w hS a hk) | (refine wx5 ?_; clear hk hS a; intro w v hS a hk) | fail) | refine wx0 ?_ | (refine s_end hk ?_; clear hk a; intro a hk) | fail))
      refine sgP hk ((g_callP hk (hf := by kernel_rfl) (hc := fail_any i 2 _)).mono (fun v w h => h.elim) (fun ch w h a hk => ?_))
      obtain ⟨rfl, hS1⟩ := h
      (repeat (first | refine then_panic ?_ | refine inBlock_panic ?_))
      exact DoneP.panic hk ⟨by rw [h5], by rw [h5], (hS.call0 hS1).sub (by first | exact .cons (by (repeat (first | exact At.here | apply At.there))) (by repeat (first | exact Sub.refl | apply Sub.under)) | (repeat (first | exact Sub.refl | apply Sub.under)))⟩
    | true =>
      have hf : found = true := by cases found with
        | true => rfl
        | false => cases hF
      have h1 : scan nqB s (i + 1) < s.size := by rw [hf] at q1; exact of_decide_eq_true q1.symm
      have hx2 := q2 h1
      have h3 := t3 ⟨h1, by rw [← hx2]; rw [hf] at hF; exact hF.symm⟩
      have hxl : x.size + (i + 1) = scan nqB s (i + 1) := by rw [hx2, ByteArray.size_extract]; omega
      (repeat' (first | (show wpListIn _ _ _ _ _ (_ :: _) _ _; first | (refine wx1 ?_; clear hk a; intro a hk) | (refine wx2 ?_ ?_ <;> (intro hp; clear hk a; intro a hk)) | (refine wx3 ?_; clear hk hS a; intro w b hS a hk) | (refine wx4 ?_; clear hk hS a; intro w hS a hk) | (refine wx5 ?_; clear hk hS a; intro w v hS a hk) | fail) | refine wx0 ?_ | (refine s_end hk ?_; clear hk a; intro a hk) | fail))
      rw [show (i : Int) + ((x.size : Int) + 2) = ((scan nqB s (i + 1) + 1 : Nat) : Int) by omega] at hS
      refine DoneP.ret (done1R hk rfl (.str hS (hT := aT rfl) (hs := zT rfl)) (h := ⟨by rw [h3], ?_⟩))
      rw [h3]
      have := leaf_of (x := x) (hS.sub (L' := rdr br s (scan nqB s (i + 1) + 1) o :: L) (by first | exact .cons (by (repeat (first | exact At.here | apply At.there))) (by repeat (first | exact Sub.refl | apply Sub.under)) | (repeat (first | exact Sub.refl | apply Sub.under))))
      rw [← hx2]
      exact this
end
end Go.Proofs.YtipdgobplfkipaaGreatDoor
namespace Go.Proofs.YtipdgobplfkipaaGreatDoor
open Go.RowKit
set_option maxRecDepth 100000
attribute [local irreducible] Go.Code.wpIn Go.wpListIn Go.Calls Gives Go.Exit.then Go.Exit.inBlock Done ObxE

set_option maxHeartbeats 4000000 in
theorem number_any (s : ByteArray) (hs : s.size ≤ 1000000) (w0 : World) : Calls Tryz.prog 106 #[.string s] w0 (Ret fun v w => v = .tuple #[.int .i64 (numP s.data.toList).1, .bool (numP s.data.toList).2] ∧ St w0 [] w) := by
  refine enter Tryz.func106 rfl Tryz.ntmps106 rfl (fun a hk => ?_); have hS := St.refl w0
  (repeat' (first | (show wpListIn _ _ _ _ _ (_ :: _) _ _; first | (refine wx1 ?_; clear hk a; intro a hk) | (refine wx2 ?_ ?_ <;> (intro hp; clear hk a; intro a hk)) | (refine wx3 ?_; clear hk hS a; intro w b hS a hk) | (refine wx4 ?_; clear hk hS a; intro w hS a hk) | (refine wx5 ?_; clear hk hS a; intro w v hS a hk) | fail) | refine wx0 ?_ | (refine s_end hk ?_; clear hk a; intro a hk) | fail))
  refine sg hk (g_callO hk (hf := by kernel_rfl) (hc := cutPrefix_any s ⟨#[45]⟩ _) (h := ?_)); clear hk a; rintro _ w ⟨rfl, hS1⟩ a hk; replace hS := hS.call0 hS1; clear hS1
  have hd0 : (if prefB s ⟨#[45]⟩ then s.extract (⟨#[45]⟩ : ByteArray).size s.size else s) = digS s := rfl
  rw [hd0] at hk
  have hD := dig_list s
  have hsg := pref_sgn s
  rw [hsg] at hk
  have hds : (digS s).size = (digL s.data.toList).length := by rw [← hD]; simp
  have hdl : (digS s).size ≤ s.size := by
    rw [hds]
    have : s.size = s.data.toList.length := by simp
    rw [this]
    unfold digL
    split
    · simp
    · exact Nat.le_refl _
  have hnum : numL s.data.toList = if sgnL s.data.toList then -((valL (digL s.data.toList) : Nat) : Int) else ((valL (digL s.data.toList) : Nat) : Int) := rfl
  have hbad : badD s.data.toList ↔ (digL s.data.toList = [] ∨ 10 < (digL s.data.toList).length ∨ (digL s.data.toList).all digB = false) := Iff.rfl
  have hzer : zerD s.data.toList ↔ ((digL s.data.toList).head? = some 48 ∧ (1 < (digL s.data.toList).length ∨ sgnL s.data.toList = true)) := Iff.rfl
  have hnp1 : (badD s.data.toList ∨ zerD s.data.toList ∨ outR (numL s.data.toList)) → numP s.data.toList = (0, false) := fun h => by unfold numP; rw [if_pos h]
  have hnp2 : ¬ badD s.data.toList → ¬ zerD s.data.toList → ¬ outR (numL s.data.toList) → numP s.data.toList = (numL s.data.toList, true) := fun h1 h2 h3 => by
    unfold numP; rw [if_neg (by rintro (h | h | h); exact h1 h; exact h2 h; exact h3 h)]
  rw [← hD] at hnum hbad hzer hds
  generalize numP s.data.toList = res at *
  generalize badD s.data.toList = bd at *
  generalize zerD s.data.toList = zd at *
  generalize numL s.data.toList = nu at *
  generalize sgnL s.data.toList = mi at *
  clear hD
  generalize digS s = d at *
  have he := emp_iff (s := d)
  have no : bd ∨ zd ∨ outR nu → ∀ (a : Act) (w : World) (l : List (Nat × Value)), Kn [] 63 a l → lk l 2 = some (.int .i64 0) → lk l 3 = some (.bool false) → St w0 [] w →
      Done Tryz.prog Tryz.f106 (fun v w => v = .tuple #[.int .i64 res.1, .bool res.2] ∧ St w0 [] w) .ret a w := fun h a w l hk g2 g3 hS =>
    done2 hk (hv := g2) (hv' := g3) (h := ⟨by rw [hnp1 h], hS⟩)
  by_cases h0 : d = ⟨#[]⟩
  · have hn := hbad.2 (.inl (by rw [h0]))
    (repeat' (first | (show wpListIn _ _ _ _ _ (_ :: _) _ _; first | (refine wx1 ?_; clear hk a; intro a hk) | (refine wx2 ?_ ?_ <;> (intro hp; clear hk a; intro a hk)) | (refine wx3 ?_; clear hk hS a; intro w b hS a hk) | (refine wx4 ?_; clear hk hS a; intro w hS a hk) | (refine wx5 ?_; clear hk hS a; intro w v hS a hk) | fail) | refine wx0 ?_ | (refine s_end hk ?_; clear hk a; intro a hk) | fail))
    all_goals first
      | exact no (.inl hn) _ _ _ hk rfl rfl hS
      | (exfalso; contradiction)
  · have h1 : 0 < d.size := Nat.pos_of_ne_zero (fun h => h0 (he.2 h))
    by_cases h10 : d.size ≤ 10
    · (repeat' (first | (show wpListIn _ _ _ _ _ (_ :: _) _ _; first | (refine wx1 ?_; clear hk a; intro a hk) | (refine wx2 ?_ ?_ <;> (intro hp; clear hk a; intro a hk)) | (refine wx3 ?_; clear hk hS a; intro w b hS a hk) | (refine wx4 ?_; clear hk hS a; intro w hS a hk) | (refine wx5 ?_; clear hk hS a; intro w v hS a hk) | fail) | refine wx0 ?_ | (refine s_end hk ?_; clear hk a; intro a hk) | fail))
      refine sg hk (g_callO hk (hf := by kernel_rfl) (hc := all_any 134 digB (by kernel_rfl) digit_any d (by omega) _) (h := ?_)); clear hk a; rintro _ w ⟨rfl, hS1⟩ a hk; replace hS := hS.call0 hS1; clear hS1
      cases hall : d.data.toList.all digB with
      | false =>
        rw [hall] at hk hbad
        (repeat' (first | (show wpListIn _ _ _ _ _ (_ :: _) _ _; first | (refine wx1 ?_; clear hk a; intro a hk) | (refine wx2 ?_ ?_ <;> (intro hp; clear hk a; intro a hk)) | (refine wx3 ?_; clear hk hS a; intro w b hS a hk) | (refine wx4 ?_; clear hk hS a; intro w hS a hk) | (refine wx5 ?_; clear hk hS a; intro w v hS a hk) | fail) | refine wx0 ?_ | (refine s_end hk ?_; clear hk a; intro a hk) | fail))
        exact no (.inl (hbad.2 (.inr (.inr rfl)))) _ _ _ hk rfl rfl hS
      | true =>
        rw [hall] at hk hbad
        have hnb : ¬ bd := fun h => by
          rcases hbad.1 h with h | h | h
          · exact absurd (hds.trans (by rw [h]; rfl) : d.size = 0) (by omega)
          · exact absurd h (by rw [← hds]; omega)
          · cases h
        have hat := dig_at (i := 0) h1 hall
        have hh : d.data.toList.head? = some (d[0]'h1) := by
          have := byte_at h1
          cases hl : d.data.toList with
          | nil => rw [hl] at this; cases this
          | cons x r => rw [hl] at this; simpa using this
        rw [hh] at hzer
        have h48 : some (d[0]'h1) = some 48 ↔ (d[0]'h1).toNat = 48 := by
          constructor
          · intro h; injection h with h; rw [h]; rfl
          · intro h; exact congrArg some (u8_ext h)
        rw [h48, ← hds] at hzer
        by_cases hz : zd
        · obtain ⟨z1, z2⟩ := hzer.1 hz
          cases mi with
          | true =>
            (repeat' (first | (show wpListIn _ _ _ _ _ (_ :: _) _ _; first | (refine wx1 ?_; clear hk a; intro a hk) | (refine wx2 ?_ ?_ <;> (intro hp; clear hk a; intro a hk)) | (refine wx3 ?_; clear hk hS a; intro w b hS a hk) | (refine wx4 ?_; clear hk hS a; intro w hS a hk) | (refine wx5 ?_; clear hk hS a; intro w v hS a hk) | fail) | refine wx0 ?_ | (refine s_end hk ?_; clear hk a; intro a hk) | fail))
            all_goals first
              | exact no (.inr (.inl hz)) _ _ _ hk rfl rfl hS
              | (exfalso; omega)
          | false =>
            have z3 : 1 < d.size := by rcases z2 with h | h; exact h; cases h
            (repeat' (first | (show wpListIn _ _ _ _ _ (_ :: _) _ _; first | (refine wx1 ?_; clear hk a; intro a hk) | (refine wx2 ?_ ?_ <;> (intro hp; clear hk a; intro a hk)) | (refine wx3 ?_; clear hk hS a; intro w b hS a hk) | (refine wx4 ?_; clear hk hS a; intro w hS a hk) | (refine wx5 ?_; clear hk hS a; intro w v hS a hk) | fail) | refine wx0 ?_ | (refine s_end hk ?_; clear hk a; intro a hk) | fail))
            all_goals first
              | exact no (.inr (.inl hz)) _ _ _ hk rfl rfl hS
              | (exfalso; omega)
        · by_cases hd48 : (d[0]'h1).toNat = 48
          · cases mi with
            | true => exact absurd (hzer.2 ⟨hd48, .inr rfl⟩) hz
            | false =>
              have hs1 : ¬ 1 < d.size := fun h => hz (hzer.2 ⟨hd48, .inl h⟩)
              (repeat' (first | (show wpListIn _ _ _ _ _ (_ :: _) _ _; first | (refine wx1 ?_; clear hk a; intro a hk) | (refine wx2 ?_ ?_ <;> (intro hp; clear hk a; intro a hk)) | (refine wx3 ?_; clear hk hS a; intro w b hS a hk) | (refine wx4 ?_; clear hk hS a; intro w hS a hk) | (refine wx5 ?_; clear hk hS a; intro w v hS a hk) | fail) | refine wx0 ?_ | (refine s_end hk ?_; clear hk a; intro a hk) | fail))
              refine sg hk (g_bytes (s := d) hk hS (by simp only [maxLen]; omega) ?_ (ht := sT rfl) (hd := eT rfl) (he := iT rfl)); clear hk hS a; intro w b cap fr hc1 hc2 hS a hk
              have hby0 := bys_rd (obj.block (hS.rd (A := obj b (.cells (bytesRow d cap) 5 fr)) (by (repeat (first | exact At.here | apply At.there))))) hc1 hc2
              have hbl := bys_len d
              (repeat' (first | (show wpListIn _ _ _ _ _ (_ :: _) _ _; first | (refine wx1 ?_; clear hk a; intro a hk) | (refine wx2 ?_ ?_ <;> (intro hp; clear hk a; intro a hk)) | (refine wx3 ?_; clear hk hS a; intro w b hS a hk) | (refine wx4 ?_; clear hk hS a; intro w hS a hk) | (refine wx5 ?_; clear hk hS a; intro w v hS a hk) | fail) | refine wx0 ?_ | (refine s_end hk ?_; clear hk a; intro a hk) | fail))
              rw [hbl] at hk
              replace hk := Kn.kp [5, 6, 40, 41, 42] hk
              refine wp_for d.size (fun i _ => [(6, .int .i64 (valL (d.data.toList.take i) : Nat)), (42, .int .i64 (i : Int))]) (fun _ _ => [obj b (.cells (bytesRow d cap) 5 fr)]) (fun _ _ => True) () hk (by repeat (first | exact trivial | refine ⟨rfl, ?_⟩)) hS.sb trivial ?_
              clear hk hS a
              rintro i - a w hi hk hS -
              have hby := bys_rd (obj.block (hS.rd (A := obj b (.cells (bytesRow d cap) 5 fr)) (by (repeat (first | exact At.here | apply At.there))))) hc1 hc2
              have hvs := val_small (l := d.data.toList.take i) (by rw [List.length_take, ← hds]; omega) (all_tk hall)
              by_cases hil : i < d.size
              · have hx : (bysF d)[i]? = some d[i] := byte_at hil
                have hvt := val_take hil
                have hdg := dig_at hil hall
                (repeat' (first | (show wpListIn _ _ _ _ _ (_ :: _) _ _; first | (refine wx1 ?_; clear hk a; intro a hk) | (refine wx2 ?_ ?_ <;> (intro hp; clear hk a; intro a hk)) | (refine wx3 ?_; clear hk hS a; intro w b hS a hk) | (refine wx4 ?_; clear hk hS a; intro w hS a hk) | (refine wx5 ?_; clear hk hS a; intro w v hS a hk) | fail) | refine wx0 ?_ | (refine s_end hk ?_; clear hk a; intro a hk) | fail))
                refine sg hk (g_mul hk ?_ (hlo := by omega) (hhi := by omega)); clear hk a; intro a hk
                (repeat' (first | (show wpListIn _ _ _ _ _ (_ :: _) _ _; first | (refine wx1 ?_; clear hk a; intro a hk) | (refine wx2 ?_ ?_ <;> (intro hp; clear hk a; intro a hk)) | (refine wx3 ?_; clear hk hS a; intro w b hS a hk) | (refine wx4 ?_; clear hk hS a; intro w hS a hk) | (refine wx5 ?_; clear hk hS a; intro w v hS a hk) | fail) | refine wx0 ?_ | (refine s_end hk ?_; clear hk a; intro a hk) | fail))
                refine sg hk (g_subB hk ?_ (hlo := by omega) (hhi := by omega)); clear hk a; intro a hk
                (repeat' (first | (show wpListIn _ _ _ _ _ (_ :: _) _ _; first | (refine wx1 ?_; clear hk a; intro a hk) | (refine wx2 ?_ ?_ <;> (intro hp; clear hk a; intro a hk)) | (refine wx3 ?_; clear hk hS a; intro w b hS a hk) | (refine wx4 ?_; clear hk hS a; intro w hS a hk) | (refine wx5 ?_; clear hk hS a; intro w v hS a hk) | fail) | refine wx0 ?_ | (refine s_end hk ?_; clear hk a; intro a hk) | fail))
                rw [show (10 : Int) * ((valL (d.data.toList.take i) : Nat) : Int) + (((d[i].toNat : Nat) : Int) - 48) = ((valL (d.data.toList.take (i + 1)) : Nat) : Int) by omega] at hk
                exact ⟨hil, (), hk.sd, hS.sb, trivial⟩
              · have : i = d.size := by omega
                subst this
                rw [all_full] at hk hvs
                simp only [if_true, if_false, Bool.false_eq_true] at hnum
                rw [← hnum] at hk
                by_cases ho : outR nu
                · have ho' : nu < -2147483648 ∨ 2147483647 < nu := ho
                  (repeat' (first | (show wpListIn _ _ _ _ _ (_ :: _) _ _; first | (refine wx1 ?_; clear hk a; intro a hk) | (refine wx2 ?_ ?_ <;> (intro hp; clear hk a; intro a hk)) | (refine wx3 ?_; clear hk hS a; intro w b hS a hk) | (refine wx4 ?_; clear hk hS a; intro w hS a hk) | (refine wx5 ?_; clear hk hS a; intro w v hS a hk) | fail) | refine wx0 ?_ | (refine s_end hk ?_; clear hk a; intro a hk) | fail))
                  all_goals first
                    | exact no (.inr (.inr ho)) _ _ _ hk rfl rfl hS.nil
                    | (exfalso; omega)
                · have ho' : ¬ (nu < -2147483648 ∨ 2147483647 < nu) := ho
                  (repeat' (first | (show wpListIn _ _ _ _ _ (_ :: _) _ _; first | (refine wx1 ?_; clear hk a; intro a hk) | (refine wx2 ?_ ?_ <;> (intro hp; clear hk a; intro a hk)) | (refine wx3 ?_; clear hk hS a; intro w b hS a hk) | (refine wx4 ?_; clear hk hS a; intro w hS a hk) | (refine wx5 ?_; clear hk hS a; intro w v hS a hk) | fail) | refine wx0 ?_ | (refine s_end hk ?_; clear hk a; intro a hk) | fail))
                  all_goals first
                    | exact done2 hk (h := ⟨by rw [hnp2 hnb hz ho, hnum], hS.nil⟩)
                    | (exfalso; omega)
          · cases mi with
            | true =>
              (repeat' (first | (show wpListIn _ _ _ _ _ (_ :: _) _ _; first | (refine wx1 ?_; clear hk a; intro a hk) | (refine wx2 ?_ ?_ <;> (intro hp; clear hk a; intro a hk)) | (refine wx3 ?_; clear hk hS a; intro w b hS a hk) | (refine wx4 ?_; clear hk hS a; intro w hS a hk) | (refine wx5 ?_; clear hk hS a; intro w v hS a hk) | fail) | refine wx0 ?_ | (refine s_end hk ?_; clear hk a; intro a hk) | fail))
              refine sg hk (g_bytes (s := d) hk hS (by simp only [maxLen]; omega) ?_ (ht := sT rfl) (hd := eT rfl) (he := iT rfl)); clear hk hS a; intro w b cap fr hc1 hc2 hS a hk
              have hby0 := bys_rd (obj.block (hS.rd (A := obj b (.cells (bytesRow d cap) 5 fr)) (by (repeat (first | exact At.here | apply At.there))))) hc1 hc2
              have hbl := bys_len d
              (repeat' (first | (show wpListIn _ _ _ _ _ (_ :: _) _ _; first | (refine wx1 ?_; clear hk a; intro a hk) | (refine wx2 ?_ ?_ <;> (intro hp; clear hk a; intro a hk)) | (refine wx3 ?_; clear hk hS a; intro w b hS a hk) | (refine wx4 ?_; clear hk hS a; intro w hS a hk) | (refine wx5 ?_; clear hk hS a; intro w v hS a hk) | fail) | refine wx0 ?_ | (refine s_end hk ?_; clear hk a; intro a hk) | fail))
              rw [hbl] at hk
              replace hk := Kn.kp [5, 6, 40, 41, 42] hk
              refine wp_for d.size (fun i _ => [(6, .int .i64 (valL (d.data.toList.take i) : Nat)), (42, .int .i64 (i : Int))]) (fun _ _ => [obj b (.cells (bytesRow d cap) 5 fr)]) (fun _ _ => True) () hk (by repeat (first | exact trivial | refine ⟨rfl, ?_⟩)) hS.sb trivial ?_
              clear hk hS a
              rintro i - a w hi hk hS -
              have hby := bys_rd (obj.block (hS.rd (A := obj b (.cells (bytesRow d cap) 5 fr)) (by (repeat (first | exact At.here | apply At.there))))) hc1 hc2
              have hvs := val_small (l := d.data.toList.take i) (by rw [List.length_take, ← hds]; omega) (all_tk hall)
              by_cases hil : i < d.size
              · have hx : (bysF d)[i]? = some d[i] := byte_at hil
                have hvt := val_take hil
                have hdg := dig_at hil hall
                (repeat' (first | (show wpListIn _ _ _ _ _ (_ :: _) _ _; first | (refine wx1 ?_; clear hk a; intro a hk) | (refine wx2 ?_ ?_ <;> (intro hp; clear hk a; intro a hk)) | (refine wx3 ?_; clear hk hS a; intro w b hS a hk) | (refine wx4 ?_; clear hk hS a; intro w hS a hk) | (refine wx5 ?_; clear hk hS a; intro w v hS a hk) | fail) | refine wx0 ?_ | (refine s_end hk ?_; clear hk a; intro a hk) | fail))
                refine sg hk (g_mul hk ?_ (hlo := by omega) (hhi := by omega)); clear hk a; intro a hk
                (repeat' (first | (show wpListIn _ _ _ _ _ (_ :: _) _ _; first | (refine wx1 ?_; clear hk a; intro a hk) | (refine wx2 ?_ ?_ <;> (intro hp; clear hk a; intro a hk)) | (refine wx3 ?_; clear hk hS a; intro w b hS a hk) | (refine wx4 ?_; clear hk hS a; intro w hS a hk) | (refine wx5 ?_; clear hk hS a; intro w v hS a hk) | fail) | refine wx0 ?_ | (refine s_end hk ?_; clear hk a; intro a hk) | fail))
                refine sg hk (g_subB hk ?_ (hlo := by omega) (hhi := by omega)); clear hk a; intro a hk
                (repeat' (first | (show wpListIn _ _ _ _ _ (_ :: _) _ _; first | (refine wx1 ?_; clear hk a; intro a hk) | (refine wx2 ?_ ?_ <;> (intro hp; clear hk a; intro a hk)) | (refine wx3 ?_; clear hk hS a; intro w b hS a hk) | (refine wx4 ?_; clear hk hS a; intro w hS a hk) | (refine wx5 ?_; clear hk hS a; intro w v hS a hk) | fail) | refine wx0 ?_ | (refine s_end hk ?_; clear hk a; intro a hk) | fail))
                rw [show (10 : Int) * ((valL (d.data.toList.take i) : Nat) : Int) + (((d[i].toNat : Nat) : Int) - 48) = ((valL (d.data.toList.take (i + 1)) : Nat) : Int) by omega] at hk
                exact ⟨hil, (), hk.sd, hS.sb, trivial⟩
              · have : i = d.size := by omega
                subst this
                rw [all_full] at hk hvs
                simp only [if_true, if_false, Bool.false_eq_true] at hnum
                (repeat' (first | (show wpListIn _ _ _ _ _ (_ :: _) _ _; first | (refine wx1 ?_; clear hk a; intro a hk) | (refine wx2 ?_ ?_ <;> (intro hp; clear hk a; intro a hk)) | (refine wx3 ?_; clear hk hS a; intro w b hS a hk) | (refine wx4 ?_; clear hk hS a; intro w hS a hk) | (refine wx5 ?_; clear hk hS a; intro w v hS a hk) | fail) | refine wx0 ?_ | (refine s_end hk ?_; clear hk a; intro a hk) | fail))
                refine sg hk (g_negW hk ?_ (hlo := by omega) (hhi := by omega)); clear hk a; intro a hk
                rw [← hnum] at hk
                by_cases ho : outR nu
                · have ho' : nu < -2147483648 ∨ 2147483647 < nu := ho
                  (repeat' (first | (show wpListIn _ _ _ _ _ (_ :: _) _ _; first | (refine wx1 ?_; clear hk a; intro a hk) | (refine wx2 ?_ ?_ <;> (intro hp; clear hk a; intro a hk)) | (refine wx3 ?_; clear hk hS a; intro w b hS a hk) | (refine wx4 ?_; clear hk hS a; intro w hS a hk) | (refine wx5 ?_; clear hk hS a; intro w v hS a hk) | fail) | refine wx0 ?_ | (refine s_end hk ?_; clear hk a; intro a hk) | fail))
                  all_goals first
                    | exact no (.inr (.inr ho)) _ _ _ hk rfl rfl hS.nil
                    | (exfalso; omega)
                · have ho' : ¬ (nu < -2147483648 ∨ 2147483647 < nu) := ho
                  (repeat' (first | (show wpListIn _ _ _ _ _ (_ :: _) _ _; first | (refine wx1 ?_; clear hk a; intro a hk) | (refine wx2 ?_ ?_ <;> (intro hp; clear hk a; intro a hk)) | (refine wx3 ?_; clear hk hS a; intro w b hS a hk) | (refine wx4 ?_; clear hk hS a; intro w hS a hk) | (refine wx5 ?_; clear hk hS a; intro w v hS a hk) | fail) | refine wx0 ?_ | (refine s_end hk ?_; clear hk a; intro a hk) | fail))
                  all_goals first
                    | exact done2 hk (h := ⟨by rw [hnp2 hnb hz ho, hnum], hS.nil⟩)
                    | (exfalso; omega)
            | false =>
              (repeat' (first | (show wpListIn _ _ _ _ _ (_ :: _) _ _; first | (refine wx1 ?_; clear hk a; intro a hk) | (refine wx2 ?_ ?_ <;> (intro hp; clear hk a; intro a hk)) | (refine wx3 ?_; clear hk hS a; intro w b hS a hk) | (refine wx4 ?_; clear hk hS a; intro w hS a hk) | (refine wx5 ?_; clear hk hS a; intro w v hS a hk) | fail) | refine wx0 ?_ | (refine s_end hk ?_; clear hk a; intro a hk) | fail))
              refine sg hk (g_bytes (s := d) hk hS (by simp only [maxLen]; omega) ?_ (ht := sT rfl) (hd := eT rfl) (he := iT rfl)); clear hk hS a; intro w b cap fr hc1 hc2 hS a hk
              have hby0 := bys_rd (obj.block (hS.rd (A := obj b (.cells (bytesRow d cap) 5 fr)) (by (repeat (first | exact At.here | apply At.there))))) hc1 hc2
              have hbl := bys_len d
              (repeat' (first | (show wpListIn _ _ _ _ _ (_ :: _) _ _; first | (refine wx1 ?_; clear hk a; intro a hk) | (refine wx2 ?_ ?_ <;> (intro hp; clear hk a; intro a hk)) | (refine wx3 ?_; clear hk hS a; intro w b hS a hk) | (refine wx4 ?_; clear hk hS a; intro w hS a hk) | (refine wx5 ?_; clear hk hS a; intro w v hS a hk) | fail) | refine wx0 ?_ | (refine s_end hk ?_; clear hk a; intro a hk) | fail))
              rw [hbl] at hk
              replace hk := Kn.kp [5, 6, 40, 41, 42] hk
              refine wp_for d.size (fun i _ => [(6, .int .i64 (valL (d.data.toList.take i) : Nat)), (42, .int .i64 (i : Int))]) (fun _ _ => [obj b (.cells (bytesRow d cap) 5 fr)]) (fun _ _ => True) () hk (by repeat (first | exact trivial | refine ⟨rfl, ?_⟩)) hS.sb trivial ?_
              clear hk hS a
              rintro i - a w hi hk hS -
              have hby := bys_rd (obj.block (hS.rd (A := obj b (.cells (bytesRow d cap) 5 fr)) (by (repeat (first | exact At.here | apply At.there))))) hc1 hc2
              have hvs := val_small (l := d.data.toList.take i) (by rw [List.length_take, ← hds]; omega) (all_tk hall)
              by_cases hil : i < d.size
              · have hx : (bysF d)[i]? = some d[i] := byte_at hil
                have hvt := val_take hil
                have hdg := dig_at hil hall
                (repeat' (first | (show wpListIn _ _ _ _ _ (_ :: _) _ _; first | (refine wx1 ?_; clear hk a; intro a hk) | (refine wx2 ?_ ?_ <;> (intro hp; clear hk a; intro a hk)) | (refine wx3 ?_; clear hk hS a; intro w b hS a hk) | (refine wx4 ?_; clear hk hS a; intro w hS a hk) | (refine wx5 ?_; clear hk hS a; intro w v hS a hk) | fail) | refine wx0 ?_ | (refine s_end hk ?_; clear hk a; intro a hk) | fail))
                refine sg hk (g_mul hk ?_ (hlo := by omega) (hhi := by omega)); clear hk a; intro a hk
                (repeat' (first | (show wpListIn _ _ _ _ _ (_ :: _) _ _; first | (refine wx1 ?_; clear hk a; intro a hk) | (refine wx2 ?_ ?_ <;> (intro hp; clear hk a; intro a hk)) | (refine wx3 ?_; clear hk hS a; intro w b hS a hk) | (refine wx4 ?_; clear hk hS a; intro w hS a hk) | (refine wx5 ?_; clear hk hS a; intro w v hS a hk) | fail) | refine wx0 ?_ | (refine s_end hk ?_; clear hk a; intro a hk) | fail))
                refine sg hk (g_subB hk ?_ (hlo := by omega) (hhi := by omega)); clear hk a; intro a hk
                (repeat' (first | (show wpListIn _ _ _ _ _ (_ :: _) _ _; first | (refine wx1 ?_; clear hk a; intro a hk) | (refine wx2 ?_ ?_ <;> (intro hp; clear hk a; intro a hk)) | (refine wx3 ?_; clear hk hS a; intro w b hS a hk) | (refine wx4 ?_; clear hk hS a; intro w hS a hk) | (refine wx5 ?_; clear hk hS a; intro w v hS a hk) | fail) | refine wx0 ?_ | (refine s_end hk ?_; clear hk a; intro a hk) | fail))
                rw [show (10 : Int) * ((valL (d.data.toList.take i) : Nat) : Int) + (((d[i].toNat : Nat) : Int) - 48) = ((valL (d.data.toList.take (i + 1)) : Nat) : Int) by omega] at hk
                exact ⟨hil, (), hk.sd, hS.sb, trivial⟩
              · have : i = d.size := by omega
                subst this
                rw [all_full] at hk hvs
                simp only [if_true, if_false, Bool.false_eq_true] at hnum
                rw [← hnum] at hk
                by_cases ho : outR nu
                · have ho' : nu < -2147483648 ∨ 2147483647 < nu := ho
                  (repeat' (first | (show wpListIn _ _ _ _ _ (_ :: _) _ _; first | (refine wx1 ?_; clear hk a; intro a hk) | (refine wx2 ?_ ?_ <;> (intro hp; clear hk a; intro a hk)) | (refine wx3 ?_; clear hk hS a; intro w b hS a hk) | (refine wx4 ?_; clear hk hS a; intro w hS a hk) | (refine wx5 ?_; clear hk hS a; intro w v hS a hk) | fail) | refine wx0 ?_ | (refine s_end hk ?_; clear hk a; intro a hk) | fail))
                  all_goals first
                    | exact no (.inr (.inr ho)) _ _ _ hk rfl rfl hS.nil
                    | (exfalso; omega)
                · have ho' : ¬ (nu < -2147483648 ∨ 2147483647 < nu) := ho
                  (repeat' (first | (show wpListIn _ _ _ _ _ (_ :: _) _ _; first | (refine wx1 ?_; clear hk a; intro a hk) | (refine wx2 ?_ ?_ <;> (intro hp; clear hk a; intro a hk)) | (refine wx3 ?_; clear hk hS a; intro w b hS a hk) | (refine wx4 ?_; clear hk hS a; intro w hS a hk) | (refine wx5 ?_; clear hk hS a; intro w v hS a hk) | fail) | refine wx0 ?_ | (refine s_end hk ?_; clear hk a; intro a hk) | fail))
                  all_goals first
                    | exact done2 hk (h := ⟨by rw [hnp2 hnb hz ho, hnum], hS.nil⟩)
                    | (exfalso; omega)
    · have hn := hbad.2 (.inr (.inl (by omega)))
      (repeat' (first | (show wpListIn _ _ _ _ _ (_ :: _) _ _; first | (refine wx1 ?_; clear hk a; intro a hk) | (refine wx2 ?_ ?_ <;> (intro hp; clear hk a; intro a hk)) | (refine wx3 ?_; clear hk hS a; intro w b hS a hk) | (refine wx4 ?_; clear hk hS a; intro w hS a hk) | (refine wx5 ?_; clear hk hS a; intro w v hS a hk) | fail) | refine wx0 ?_ | (refine s_end hk ?_; clear hk a; intro a hk) | fail))
      exact no (.inl hn) _ _ _ hk rfl rfl hS
end Go.Proofs.YtipdgobplfkipaaGreatDoor
namespace Go.Proofs.YtipdgobplfkipaaGreatDoor
open Go.RowKit
set_option maxRecDepth 100000
attribute [local irreducible] Go.Code.wpIn Go.wpListIn Go.Calls Gives Go.Exit.then Go.Exit.inBlock Done ObxE

theorem setI_any (l : List PrI) (k : ByteArray) (x : Int) (v : Value) (w0 : World) (hv : SlT l v w0) (hl : l.length ≤ 30000) :
    Calls Tryz.prog 107 #[v, .string k, .int .i64 x] w0 (Ret fun v w => St w0 [OwT 77 (putF nmI (snapF nmI l) (k, x)) v] w) := by
  have hsl := snap_len nmI l
  refine enter Tryz.func107 rfl Tryz.ntmps107 rfl (fun a hk => ?_); have hS := St.refl w0
  (repeat' (first | (show wpListIn _ _ _ _ _ (_ :: _) _ _; first | (refine wx1 ?_; clear hk a; intro a hk) | (refine wx2 ?_ ?_ <;> (intro hp; clear hk a; intro a hk)) | (refine wx3 ?_; clear hk hS a; intro w b hS a hk) | (refine wx4 ?_; clear hk hS a; intro w hS a hk) | (refine wx5 ?_; clear hk hS a; intro w v hS a hk) | fail) | refine wx0 ?_ | (refine s_end hk ?_; clear hk a; intro a hk) | fail))
  refine sg hk (g_callO hk (hf := by kernel_rfl) (hc := ofI_any l v _ (hS.rdT hv) hl) (h := ?_)); clear hk a; rintro vs w hS1 a hk; replace hS := hS.call hS1; clear hS1
  (repeat' (first | (show wpListIn _ _ _ _ _ (_ :: _) _ _; first | (refine wx1 ?_; clear hk a; intro a hk) | (refine wx2 ?_ ?_ <;> (intro hp; clear hk a; intro a hk)) | (refine wx3 ?_; clear hk hS a; intro w b hS a hk) | (refine wx4 ?_; clear hk hS a; intro w hS a hk) | (refine wx5 ?_; clear hk hS a; intro w v hS a hk) | fail) | refine wx0 ?_ | (refine s_end hk ?_; clear hk a; intro a hk) | fail))
  refine sg hk (g_callO hk (hf := by kernel_rfl) (hc := putI_any (s := snapF nmI l) (v := vs) (L := []) ((k, x) : PrI) (hS.sub (by (repeat (first | exact Sub.nil | exact Sub.refl | refine Sub.cons (by (repeat (first | exact At.here | apply At.there))) ?_)))) (by omega) (snap_rises nmI l)) (h := ?_)); clear hk hS a; intro vr w hS a hk
  (repeat' (first | (show wpListIn _ _ _ _ _ (_ :: _) _ _; first | (refine wx1 ?_; clear hk a; intro a hk) | (refine wx2 ?_ ?_ <;> (intro hp; clear hk a; intro a hk)) | (refine wx3 ?_; clear hk hS a; intro w b hS a hk) | (refine wx4 ?_; clear hk hS a; intro w hS a hk) | (refine wx5 ?_; clear hk hS a; intro w v hS a hk) | fail) | refine wx0 ?_ | (refine s_end hk ?_; clear hk a; intro a hk) | fail))
  exact done1 hk (h := hS)

theorem setS_any (l : List PrS) (k : ByteArray) (x : ByteArray) (v : Value) (w0 : World) (hv : SlT l v w0) (hl : l.length ≤ 30000) :
    Calls Tryz.prog 103 #[v, .string k, .string x] w0 (Ret fun v w => St w0 [OwT 76 (putF nmS (snapF nmS l) (k, x)) v] w) := by
  have hsl := snap_len nmS l
  refine enter Tryz.func103 rfl Tryz.ntmps103 rfl (fun a hk => ?_); have hS := St.refl w0
  (repeat' (first | (show wpListIn _ _ _ _ _ (_ :: _) _ _; first | (refine wx1 ?_; clear hk a; intro a hk) | (refine wx2 ?_ ?_ <;> (intro hp; clear hk a; intro a hk)) | (refine wx3 ?_; clear hk hS a; intro w b hS a hk) | (refine wx4 ?_; clear hk hS a; intro w hS a hk) | (refine wx5 ?_; clear hk hS a; intro w v hS a hk) | fail) | refine wx0 ?_ | (refine s_end hk ?_; clear hk a; intro a hk) | fail))
  refine sg hk (g_callO hk (hf := by kernel_rfl) (hc := ofS_any l v _ (hS.rdT hv) hl) (h := ?_)); clear hk a; rintro vs w hS1 a hk; replace hS := hS.call hS1; clear hS1
  (repeat' (first | (show wpListIn _ _ _ _ _ (_ :: _) _ _; first | (refine wx1 ?_; clear hk a; intro a hk) | (refine wx2 ?_ ?_ <;> (intro hp; clear hk a; intro a hk)) | (refine wx3 ?_; clear hk hS a; intro w b hS a hk) | (refine wx4 ?_; clear hk hS a; intro w hS a hk) | (refine wx5 ?_; clear hk hS a; intro w v hS a hk) | fail) | refine wx0 ?_ | (refine s_end hk ?_; clear hk a; intro a hk) | fail))
  refine sg hk (g_callO hk (hf := by kernel_rfl) (hc := putS_any (s := snapF nmS l) (v := vs) (L := []) ((k, x) : PrS) (hS.sub (by (repeat (first | exact Sub.nil | exact Sub.refl | refine Sub.cons (by (repeat (first | exact At.here | apply At.there))) ?_)))) (by omega) (snap_rises nmS l)) (h := ?_)); clear hk hS a; intro vr w hS a hk
  (repeat' (first | (show wpListIn _ _ _ _ _ (_ :: _) _ _; first | (refine wx1 ?_; clear hk a; intro a hk) | (refine wx2 ?_ ?_ <;> (intro hp; clear hk a; intro a hk)) | (refine wx3 ?_; clear hk hS a; intro w b hS a hk) | (refine wx4 ?_; clear hk hS a; intro w hS a hk) | (refine wx5 ?_; clear hk hS a; intro w v hS a hk) | fail) | refine wx0 ?_ | (refine s_end hk ?_; clear hk a; intro a hk) | fail))
  exact done1 hk (h := hS)

abbrev encT : ByteArray → Value := fun s => .string s
theorem keyT8 : KeyT Tryz.prog 9 encT := keyStr (sT rfl)
abbrev seenM (l : List ByteArray) : List (ByteArray × Value) := l.map (fun x => (x, Value.int .i64 1))
theorem seen_keys (l : List ByteArray) : (seenM l).map Prod.fst = l := by simp [seenM, Function.comp_def]
theorem seen_get_no {l : List ByteArray} {k : ByteArray} (h : k ∉ l) : getL (seenM l) k = none := getL_none (by rw [seen_keys]; exact h)
theorem seen_get_yes : ∀ {l : List ByteArray} {k : ByteArray}, k ∈ l → getL (seenM l) k = some (.int .i64 1)
  | [], _, h => by cases h
  | x :: l, k, h => by
    show getL ((x, Value.int .i64 1) :: seenM l) k = _
    rw [getL_cons]
    by_cases e : k = x
    · rw [if_pos e]
    · rw [if_neg e]; exact seen_get_yes (by simpa [e] using h)
theorem seen_set_no {l : List ByteArray} {k : ByteArray} (h : k ∉ l) : setL (seenM l) k (.int .i64 1) = seenM (l ++ [k]) := by
  have : ∀ (l : List ByteArray), k ∉ l → setL (seenM l) k (.int .i64 1) = seenM l ++ [(k, .int .i64 1)] := by
    intro l
    induction l with
    | nil => intro _; rfl
    | cons x l ih =>
      intro h
      have hx : ¬ k = x := fun e => h (by simp [e])
      show setL ((x, Value.int .i64 1) :: seenM l) k _ = _
      simp only [setL]
      rw [if_neg hx, ih (fun h' => h (List.mem_cons_of_mem _ h'))]; rfl
  rw [this l h]; simp [seenM]

section
variable {B : Bs} {L : List HP} {w : World}
theorem once_no {l : List ByteArray} {k : ByteArray} {vm : Value} (h : k ∉ l) (hS : St B (mapH encT vm (seenM l) :: L) w) :
    Calls Tryz.prog 102 #[vm, .string k] w (Ret fun v w' => v = .bool true ∧ St B (mapH encT vm (seenM (l ++ [k])) :: L) w') := by
  refine enter Tryz.func102 rfl Tryz.ntmps102 rfl (fun a hk => ?_)
  (repeat' (first | (show wpListIn _ _ _ _ _ (_ :: _) _ _; first | (refine wx1 ?_; clear hk a; intro a hk) | (refine wx2 ?_ ?_ <;> (intro hp; clear hk a; intro a hk)) | (refine wx3 ?_; clear hk hS a; intro w b hS a hk) | (refine wx4 ?_; clear hk hS a; intro w hS a hk) | (refine wx5 ?_; clear hk hS a; intro w v hS a hk) | fail) | refine wx0 ?_ | (refine s_end hk ?_; clear hk a; intro a hk) | fail))
  refine sg hk (g_lookup (k := k) hk (hS.rd (A := mapH encT vm _) (by (repeat (first | exact At.here | apply At.there)))) ?_ (mT rfl) keyT8 (oT rfl)); clear hk a; intro a hk
  rw [seen_get_no h] at hk
  (repeat' (first | (show wpListIn _ _ _ _ _ (_ :: _) _ _; first | (refine wx1 ?_; clear hk a; intro a hk) | (refine wx2 ?_ ?_ <;> (intro hp; clear hk a; intro a hk)) | (refine wx3 ?_; clear hk hS a; intro w b hS a hk) | (refine wx4 ?_; clear hk hS a; intro w hS a hk) | (refine wx5 ?_; clear hk hS a; intro w v hS a hk) | fail) | refine wx0 ?_ | (refine s_end hk ?_; clear hk a; intro a hk) | fail))
  refine su hk (g_mapUpdate (k := k) (u := .int .i64 1) hk hS ?_ (mT rfl) keyT8); clear hk hS a; intro w hS a hk
  rw [seen_set_no h] at hS
  (repeat' (first | (show wpListIn _ _ _ _ _ (_ :: _) _ _; first | (refine wx1 ?_; clear hk a; intro a hk) | (refine wx2 ?_ ?_ <;> (intro hp; clear hk a; intro a hk)) | (refine wx3 ?_; clear hk hS a; intro w b hS a hk) | (refine wx4 ?_; clear hk hS a; intro w hS a hk) | (refine wx5 ?_; clear hk hS a; intro w v hS a hk) | fail) | refine wx0 ?_ | (refine s_end hk ?_; clear hk a; intro a hk) | fail))
  refine sg hk (g_lookup (k := k) hk (hS.rd (A := mapH encT vm _) (by (repeat (first | exact At.here | apply At.there)))) ?_ (mT rfl) keyT8 (oT rfl)); clear hk a; intro a hk
  rw [seen_get_yes (by simp)] at hk
  (repeat' (first | (show wpListIn _ _ _ _ _ (_ :: _) _ _; first | (refine wx1 ?_; clear hk a; intro a hk) | (refine wx2 ?_ ?_ <;> (intro hp; clear hk a; intro a hk)) | (refine wx3 ?_; clear hk hS a; intro w b hS a hk) | (refine wx4 ?_; clear hk hS a; intro w hS a hk) | (refine wx5 ?_; clear hk hS a; intro w v hS a hk) | fail) | refine wx0 ?_ | (refine s_end hk ?_; clear hk a; intro a hk) | fail))
  exact done1 hk (h := ⟨rfl, hS⟩)
theorem once_yes {l : List ByteArray} {k : ByteArray} {vm : Value} (h : k ∈ l) (hS : St B (mapH encT vm (seenM l) :: L) w) :
    Calls Tryz.prog 102 #[vm, .string k] w (Ret fun v w' => v = .bool false ∧ St B L w') := by
  refine enter Tryz.func102 rfl Tryz.ntmps102 rfl (fun a hk => ?_)
  (repeat' (first | (show wpListIn _ _ _ _ _ (_ :: _) _ _; first | (refine wx1 ?_; clear hk a; intro a hk) | (refine wx2 ?_ ?_ <;> (intro hp; clear hk a; intro a hk)) | (refine wx3 ?_; clear hk hS a; intro w b hS a hk) | (refine wx4 ?_; clear hk hS a; intro w hS a hk) | (refine wx5 ?_; clear hk hS a; intro w v hS a hk) | fail) | refine wx0 ?_ | (refine s_end hk ?_; clear hk a; intro a hk) | fail))
  refine sg hk (g_lookup (k := k) hk (hS.rd (A := mapH encT vm _) (by (repeat (first | exact At.here | apply At.there)))) ?_ (mT rfl) keyT8 (oT rfl)); clear hk a; intro a hk
  rw [seen_get_yes h] at hk
  (repeat' (first | (show wpListIn _ _ _ _ _ (_ :: _) _ _; first | (refine wx1 ?_; clear hk a; intro a hk) | (refine wx2 ?_ ?_ <;> (intro hp; clear hk a; intro a hk)) | (refine wx3 ?_; clear hk hS a; intro w b hS a hk) | (refine wx4 ?_; clear hk hS a; intro w hS a hk) | (refine wx5 ?_; clear hk hS a; intro w v hS a hk) | fail) | refine wx0 ?_ | (refine s_end hk ?_; clear hk a; intro a hk) | fail))
  refine su hk (g_mapUpdate (k := k) (u := .int .i64 2) hk hS ?_ (mT rfl) keyT8); clear hk hS a; intro w hS a hk
  (repeat' (first | (show wpListIn _ _ _ _ _ (_ :: _) _ _; first | (refine wx1 ?_; clear hk a; intro a hk) | (refine wx2 ?_ ?_ <;> (intro hp; clear hk a; intro a hk)) | (refine wx3 ?_; clear hk hS a; intro w b hS a hk) | (refine wx4 ?_; clear hk hS a; intro w hS a hk) | (refine wx5 ?_; clear hk hS a; intro w v hS a hk) | fail) | refine wx0 ?_ | (refine s_end hk ?_; clear hk a; intro a hk) | fail))
  refine sg hk (g_lookup (k := k) hk (hS.rd (A := mapH encT vm _) (by (repeat (first | exact At.here | apply At.there)))) ?_ (mT rfl) keyT8 (oT rfl)); clear hk a; intro a hk
  rw [getL_set, if_pos rfl] at hk
  (repeat' (first | (show wpListIn _ _ _ _ _ (_ :: _) _ _; first | (refine wx1 ?_; clear hk a; intro a hk) | (refine wx2 ?_ ?_ <;> (intro hp; clear hk a; intro a hk)) | (refine wx3 ?_; clear hk hS a; intro w b hS a hk) | (refine wx4 ?_; clear hk hS a; intro w hS a hk) | (refine wx5 ?_; clear hk hS a; intro w v hS a hk) | fail) | refine wx0 ?_ | (refine s_end hk ?_; clear hk a; intro a hk) | fail))
  exact done1 hk (h := ⟨rfl, hS.sub (by first | exact Sub.cons_drop | (repeat (first | exact Sub.refl | apply Sub.under)))⟩)
theorem once_any {l : List ByteArray} {k : ByteArray} {vm : Value} (hS : St B (mapH encT vm (seenM l) :: L) w) :
    Calls Tryz.prog 102 #[vm, .string k] w (Ret fun v w' => ∃ ok, v = .bool ok ∧ ((ok = true ∧ k ∉ l ∧ St B (mapH encT vm (seenM (l ++ [k])) :: L) w') ∨ (ok = false ∧ k ∈ l ∧ St B L w'))) := by
  by_cases h : k ∈ l
  · exact (once_yes h hS).mono (fun e w hh => hh.mono (fun v w ⟨h1, h2⟩ => ⟨false, h1, .inr ⟨rfl, h, h2⟩⟩))
  · exact (once_no h hS).mono (fun e w hh => hh.mono (fun v w ⟨h1, h2⟩ => ⟨true, h1, .inl ⟨rfl, h, h2⟩⟩))
end
end Go.Proofs.YtipdgobplfkipaaGreatDoor
namespace Go.Proofs.YtipdgobplfkipaaGreatDoor

abbrev kGroup : ByteArray := ⟨#[103, 114, 111, 117, 112]⟩
abbrev kSlot : ByteArray := ⟨#[115, 108, 111, 116]⟩
abbrev kAppear : ByteArray := ⟨#[97, 112, 112, 101, 97, 114]⟩
abbrev kMoves : ByteArray := ⟨#[109, 111, 118, 101, 115]⟩
abbrev kOutIn : ByteArray := ⟨#[111, 117, 116, 45, 105, 110]⟩
abbrev kInOut : ByteArray := ⟨#[105, 110, 45, 111, 117, 116]⟩
abbrev kKind : ByteArray := ⟨#[107, 105, 110, 100]⟩
abbrev kMode : ByteArray := ⟨#[109, 111, 100, 101]⟩
abbrev kEnter : ByteArray := ⟨#[101, 110, 116, 101, 114]⟩
abbrev kLeave : ByteArray := ⟨#[108, 101, 97, 118, 101]⟩
abbrev kMove : ByteArray := ⟨#[109, 111, 118, 101]⟩
def optP (k : Int) (o : Opt) (r : ByteArray) : Option ((Int × Opt) × ByteArray) :=
  if (cutR 61 r).2.2 = true then
    if (cutR 61 r).1 = kEnter then (if (numP (cutR 61 r).2.1.data.toList).2 = true then some ((k, ((numP (cutR 61 r).2.1.data.toList).1, o.2.1, o.2.2.1, o.2.2.2.1, o.2.2.2.2.1, o.2.2.2.2.2)), kEnter) else none)
    else if (cutR 61 r).1 = kLeave then (if (numP (cutR 61 r).2.1.data.toList).2 = true then some ((k, (o.1, (numP (cutR 61 r).2.1.data.toList).1, o.2.2.1, o.2.2.2.1, o.2.2.2.2.1, o.2.2.2.2.2)), kLeave) else none)
    else if (cutR 61 r).1 = kMove then (if (numP (cutR 61 r).2.1.data.toList).2 = true then some ((k, (o.1, o.2.1, (numP (cutR 61 r).2.1.data.toList).1, o.2.2.2.1, o.2.2.2.2.1, o.2.2.2.2.2)), kMove) else none)
    else none
  else if r = kGroup then some ((3, o), kKind)
  else if r = kSlot then some ((4, o), kKind)
  else if r = kAppear then some ((k, (o.1, o.2.1, o.2.2.1, o.2.2.2.1, true, o.2.2.2.2.2)), kAppear)
  else if r = kMoves then some ((k, (o.1, o.2.1, o.2.2.1, o.2.2.2.1, o.2.2.2.2.1, true)), kMoves)
  else if r = kOutIn then some ((k, (o.1, o.2.1, o.2.2.1, 1, o.2.2.2.2.1, o.2.2.2.2.2)), kMode)
  else if r = kInOut then some ((k, (o.1, o.2.1, o.2.2.1, 2, o.2.2.2.2.1, o.2.2.2.2.2)), kMode)
  else none
def onceP {α : Type} (M : List ByteArray) (x : Option (α × ByteArray)) : Option (α × List ByteArray) := match x with
  | none => none
  | some (a, key) => if M.any (fun y => decide (y = key)) = true then none else some (a, M ++ [key])
theorem any_mem {M : List ByteArray} {k : ByteArray} : M.any (fun y => decide (y = k)) = true ↔ k ∈ M := by simp
theorem once_in {α : Type} {M : List ByteArray} {x : α} {k : ByteArray} (h : k ∈ M) : onceP M (some (x, k)) = none := if_pos (any_mem.2 h)
theorem once_out {α : Type} {M : List ByteArray} {x : α} {k : ByteArray} (h : k ∉ M) : onceP M (some (x, k)) = some (x, M ++ [k]) := if_neg (fun h' => h (any_mem.1 h'))
def itmP (n : Itm) (w : ByteArray) (M : List ByteArray) : Option (Itm × List ByteArray) :=
  let r := w.extract 1 w.size
  match w.data.toList with
  | [] => none
  | c :: _ =>
    if c.toNat = 35 then onceP (α := Itm) M (if keyS r = true then some ({ n with key := r }, ⟨#[35]⟩) else none)
    else if c.toNat = 46 then (if nameS r = true then some ({ n with cl := n.cl ++ [r] }, M) else none)
    else if c.toNat = 64 then onceP (α := Itm) M (if (cutR 61 r).2.2 = true ∧ nameS (cutR 61 r).1 = true ∧ valS (cutR 61 r).2.1 = true then some ({ n with al := n.al ++ [((cutR 61 r).1, (cutR 61 r).2.1)] }, ⟨#[64]⟩ ++ (cutR 61 r).1) else none)
    else if c.toNat = 33 then onceP (α := Itm) M ((optP n.k n.o r).map fun x => ({ n with k := x.1.1, o := x.1.2 }, x.2))
    else onceP (α := Itm) M (if (cutR 61 w).2.2 = true ∧ (numP (cutR 61 w).2.1.data.toList).2 = true ∧ nameS (cutR 61 w).1 = true then some ({ n with sl := n.sl ++ [((cutR 61 w).1, (numP (cutR 61 w).2.1.data.toList).1)] }, ⟨#[61]⟩ ++ (cutR 61 w).1) else none)

def keyP (x : ByteArray) : ByteArray := match x.data.toList with
  | 33 :: r => ⟨r.toArray⟩
  | _ => x
def GoodK (x : ByteArray) : Prop := x = ⟨#[35]⟩ ∨ (∃ r, x.data.toList = 64 :: r) ∨ (∃ r, x.data.toList = 61 :: r) ∨ (∃ r, x.data.toList = 33 :: r ∧ (∃ c q, r = c :: q ∧ c.toNat ≠ 35 ∧ c.toNat ≠ 64 ∧ c.toNat ≠ 61 ∧ c.toNat ≠ 33))
end Go.Proofs.YtipdgobplfkipaaGreatDoor
