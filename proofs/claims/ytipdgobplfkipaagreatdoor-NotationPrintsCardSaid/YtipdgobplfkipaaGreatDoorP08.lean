/- Layer 2: what the program says of texts. Layer 2: signs, bytes of a text, digits' values. Layer 8: the program's reader: a word; a text cut at a byte; a text between quotes. From the form's reading of plain arguments to what they are. Lists of what has a key, by rising keys: plain laws, no program in sight. -/
import Derived.Test.YtipdgobplfkipaaGreatDoorP07
import Derived.Test.YtipdgobplfkipaaGreatDoorP06
import Derived.Test.YtipdgobplfkipaaGreatDoorP04
set_option linter.all false
namespace Go.Proofs.YtipdgobplfkipaaGreatDoor
open Go.RowKit
set_option maxRecDepth 100000
attribute [local irreducible] Go.Code.wpIn Go.wpListIn Go.Calls Gives Go.Exit.then Go.Exit.inBlock Done ObxE

theorem letter_any (b : UInt8) (w0 : World) : Calls Tryz.prog 101 #[.int .u8 (b.toNat : Nat)] w0 (Ret fun v w => v = .bool (letB b) ∧ St w0 [] w) := by
  refine enter Tryz.func101 rfl Tryz.ntmps101 rfl (fun a hk => ?_); have hS := St.refl w0
  (repeat' (first | (show wpListIn _ _ _ _ _ (_ :: _) _ _; first | (refine wx1 ?_; clear hk a; intro a hk) | (refine wx2 ?_ ?_ <;> (intro hp; clear hk a; intro a hk)) | (refine wx3 ?_; clear hk hS a; intro w b hS a hk) | (refine wx4 ?_; clear hk hS a; intro w hS a hk) | (refine wx5 ?_; clear hk hS a; intro w v hS a hk) | fail) | refine wx0 ?_ | (refine s_end hk ?_; clear hk a; intro a hk) | fail))
  all_goals exact done1 hk (h := ⟨by unfold letB; first | rw [decide_eq_true (by omega)] | rw [decide_eq_false (by omega)], hS.nil⟩)
theorem digit_any (b : UInt8) (w0 : World) : Calls Tryz.prog 134 #[.int .u8 (b.toNat : Nat)] w0 (Ret fun v w => v = .bool (digB b) ∧ St w0 [] w) := by
  refine enter Tryz.func134 rfl Tryz.ntmps134 rfl (fun a hk => ?_); have hS := St.refl w0
  (repeat' (first | (show wpListIn _ _ _ _ _ (_ :: _) _ _; first | (refine wx1 ?_; clear hk a; intro a hk) | (refine wx2 ?_ ?_ <;> (intro hp; clear hk a; intro a hk)) | (refine wx3 ?_; clear hk hS a; intro w b hS a hk) | (refine wx4 ?_; clear hk hS a; intro w hS a hk) | (refine wx5 ?_; clear hk hS a; intro w v hS a hk) | fail) | refine wx0 ?_ | (refine s_end hk ?_; clear hk a; intro a hk) | fail))
  all_goals exact done1 hk (h := ⟨by unfold digB; first | rw [decide_eq_true (by omega)] | rw [decide_eq_false (by omega)], hS.nil⟩)
theorem visible_any (b : UInt8) (w0 : World) : Calls Tryz.prog 132 #[.int .u8 (b.toNat : Nat)] w0 (Ret fun v w => v = .bool (visB b) ∧ St w0 [] w) := by
  refine enter Tryz.func132 rfl Tryz.ntmps132 rfl (fun a hk => ?_); have hS := St.refl w0
  (repeat' (first | (show wpListIn _ _ _ _ _ (_ :: _) _ _; first | (refine wx1 ?_; clear hk a; intro a hk) | (refine wx2 ?_ ?_ <;> (intro hp; clear hk a; intro a hk)) | (refine wx3 ?_; clear hk hS a; intro w b hS a hk) | (refine wx4 ?_; clear hk hS a; intro w hS a hk) | (refine wx5 ?_; clear hk hS a; intro w v hS a hk) | fail) | refine wx0 ?_ | (refine s_end hk ?_; clear hk a; intro a hk) | fail))
  all_goals exact done1 hk (h := ⟨by unfold visB; first | rw [decide_eq_true (by omega)] | rw [decide_eq_false (by omega)], hS.nil⟩)
theorem plain_any (b : UInt8) (w0 : World) : Calls Tryz.prog 127 #[.int .u8 (b.toNat : Nat)] w0 (Ret fun v w => v = .bool (plaB b) ∧ St w0 [] w) := by
  refine enter Tryz.func127 rfl Tryz.ntmps127 rfl (fun a hk => ?_); have hS := St.refl w0
  (repeat' (first | (show wpListIn _ _ _ _ _ (_ :: _) _ _; first | (refine wx1 ?_; clear hk a; intro a hk) | (refine wx2 ?_ ?_ <;> (intro hp; clear hk a; intro a hk)) | (refine wx3 ?_; clear hk hS a; intro w b hS a hk) | (refine wx4 ?_; clear hk hS a; intro w hS a hk) | (refine wx5 ?_; clear hk hS a; intro w v hS a hk) | fail) | refine wx0 ?_ | (refine s_end hk ?_; clear hk a; intro a hk) | fail))
  refine sg hk (g_callO hk (hf := by kernel_rfl) (hc := letter_any b _) (h := ?_)); clear hk a; rintro _ w ⟨rfl, hS1⟩ a hk; replace hS := hS.call0 hS1; clear hS1
  cases h : letB b with
  | true =>
    rw [h] at hk
    unfold letB at h
    simp only [decide_eq_true_eq] at h
    (repeat' (first | (show wpListIn _ _ _ _ _ (_ :: _) _ _; first | (refine wx1 ?_; clear hk a; intro a hk) | (refine wx2 ?_ ?_ <;> (intro hp; clear hk a; intro a hk)) | (refine wx3 ?_; clear hk hS a; intro w b hS a hk) | (refine wx4 ?_; clear hk hS a; intro w hS a hk) | (refine wx5 ?_; clear hk hS a; intro w v hS a hk) | fail) | refine wx0 ?_ | (refine s_end hk ?_; clear hk a; intro a hk) | fail))
    exact done1 hk (h := ⟨by unfold plaB; rw [decide_eq_true (by omega)], hS.nil⟩)
  | false =>
    rw [h] at hk
    unfold letB at h
    simp only [decide_eq_false_iff_not] at h
    (repeat' (first | (show wpListIn _ _ _ _ _ (_ :: _) _ _; first | (refine wx1 ?_; clear hk a; intro a hk) | (refine wx2 ?_ ?_ <;> (intro hp; clear hk a; intro a hk)) | (refine wx3 ?_; clear hk hS a; intro w b hS a hk) | (refine wx4 ?_; clear hk hS a; intro w hS a hk) | (refine wx5 ?_; clear hk hS a; intro w v hS a hk) | fail) | refine wx0 ?_ | (refine s_end hk ?_; clear hk a; intro a hk) | fail))
    refine sg hk (g_callO hk (hf := by kernel_rfl) (hc := digit_any b _) (h := ?_)); clear hk a; rintro _ w ⟨rfl, hS1⟩ a hk; replace hS := hS.call0 hS1; clear hS1
    cases h2 : digB b with
    | true =>
      rw [h2] at hk
      unfold digB at h2
      simp only [decide_eq_true_eq] at h2
      (repeat' (first | (show wpListIn _ _ _ _ _ (_ :: _) _ _; first | (refine wx1 ?_; clear hk a; intro a hk) | (refine wx2 ?_ ?_ <;> (intro hp; clear hk a; intro a hk)) | (refine wx3 ?_; clear hk hS a; intro w b hS a hk) | (refine wx4 ?_; clear hk hS a; intro w hS a hk) | (refine wx5 ?_; clear hk hS a; intro w v hS a hk) | fail) | refine wx0 ?_ | (refine s_end hk ?_; clear hk a; intro a hk) | fail))
      exact done1 hk (h := ⟨by unfold plaB; rw [decide_eq_true (by omega)], hS.nil⟩)
    | false =>
      rw [h2] at hk
      unfold digB at h2
      simp only [decide_eq_false_iff_not] at h2
      (repeat' (first | (show wpListIn _ _ _ _ _ (_ :: _) _ _; first | (refine wx1 ?_; clear hk a; intro a hk) | (refine wx2 ?_ ?_ <;> (intro hp; clear hk a; intro a hk)) | (refine wx3 ?_; clear hk hS a; intro w b hS a hk) | (refine wx4 ?_; clear hk hS a; intro w hS a hk) | (refine wx5 ?_; clear hk hS a; intro w v hS a hk) | fail) | refine wx0 ?_ | (refine s_end hk ?_; clear hk a; intro a hk) | fail))
      all_goals exact done1 hk (h := ⟨by unfold plaB; first | rw [decide_eq_true (by omega)] | rw [decide_eq_false (by omega)], hS.nil⟩)
theorem all_any (fid : FuncId) (p : UInt8 → Bool) (hf : callable Tryz.prog fid = true) (hp : ∀ b w0, Calls Tryz.prog fid #[.int .u8 (b.toNat : Nat)] w0 (Ret fun v w => v = .bool (p b) ∧ St w0 [] w)) (s : ByteArray) (hs : s.size ≤ 1000000) (w0 : World) :
    Calls Tryz.prog 125 #[.string s, .func (.func fid) #[] #[]] w0 (Ret fun v w => v = .bool (s.data.toList.all p) ∧ St w0 [] w) := by
  refine enter Tryz.func125 rfl Tryz.ntmps125 rfl (fun a hk => ?_); have hS := St.refl w0
  (repeat' (first | (show wpListIn _ _ _ _ _ (_ :: _) _ _; first | (refine wx1 ?_; clear hk a; intro a hk) | (refine wx2 ?_ ?_ <;> (intro hp; clear hk a; intro a hk)) | (refine wx3 ?_; clear hk hS a; intro w b hS a hk) | (refine wx4 ?_; clear hk hS a; intro w hS a hk) | (refine wx5 ?_; clear hk hS a; intro w v hS a hk) | fail) | refine wx0 ?_ | (refine s_end hk ?_; clear hk a; intro a hk) | fail))
  replace hk := Kn.kp [0, 1, 7, 8] hk
  refine wp_for s.size (fun i _ => [(8, .int .i64 (i : Int))]) (fun _ _ => []) (fun i _ => (s.data.toList.take i).all p = true) () hk (by repeat (first | exact trivial | refine ⟨rfl, ?_⟩)) hS.sb (by simp) ?_
  clear hk hS a
  rintro i - a w hi hk hS hF
  by_cases hil : i < s.size
  · have htk := all_take hil p
    (repeat' (first | (show wpListIn _ _ _ _ _ (_ :: _) _ _; first | (refine wx1 ?_; clear hk a; intro a hk) | (refine wx2 ?_ ?_ <;> (intro hp; clear hk a; intro a hk)) | (refine wx3 ?_; clear hk hS a; intro w b hS a hk) | (refine wx4 ?_; clear hk hS a; intro w hS a hk) | (refine wx5 ?_; clear hk hS a; intro w v hS a hk) | fail) | refine wx0 ?_ | (refine s_end hk ?_; clear hk a; intro a hk) | fail))
    refine sg hk (g_callvO hk (hf := hf) (hc := hp s[i] _) (h := ?_)); clear hk a; rintro _ w ⟨rfl, hS1⟩ a hk; replace hS := hS.call0 hS1; clear hS1
    cases hb : p s[i] with
    | true =>
      rw [hb] at hk
      (repeat' (first | (show wpListIn _ _ _ _ _ (_ :: _) _ _; first | (refine wx1 ?_; clear hk a; intro a hk) | (refine wx2 ?_ ?_ <;> (intro hp; clear hk a; intro a hk)) | (refine wx3 ?_; clear hk hS a; intro w b hS a hk) | (refine wx4 ?_; clear hk hS a; intro w hS a hk) | (refine wx5 ?_; clear hk hS a; intro w v hS a hk) | fail) | refine wx0 ?_ | (refine s_end hk ?_; clear hk a; intro a hk) | fail))
      exact ⟨hil, (), hk.sd, hS.sb, by rw [htk, hF, hb]; rfl⟩
    | false =>
      rw [hb] at hk
      (repeat' (first | (show wpListIn _ _ _ _ _ (_ :: _) _ _; first | (refine wx1 ?_; clear hk a; intro a hk) | (refine wx2 ?_ ?_ <;> (intro hp; clear hk a; intro a hk)) | (refine wx3 ?_; clear hk hS a; intro w b hS a hk) | (refine wx4 ?_; clear hk hS a; intro w hS a hk) | (refine wx5 ?_; clear hk hS a; intro w v hS a hk) | fail) | refine wx0 ?_ | (refine s_end hk ?_; clear hk a; intro a hk) | fail))
      exact done1 hk (h := ⟨by rw [all_no hil hb], hS.nil⟩)
  · have : i = s.size := by omega
    subst this
    rw [all_full] at hF
    (repeat' (first | (show wpListIn _ _ _ _ _ (_ :: _) _ _; first | (refine wx1 ?_; clear hk a; intro a hk) | (refine wx2 ?_ ?_ <;> (intro hp; clear hk a; intro a hk)) | (refine wx3 ?_; clear hk hS a; intro w b hS a hk) | (refine wx4 ?_; clear hk hS a; intro w hS a hk) | (refine wx5 ?_; clear hk hS a; intro w v hS a hk) | fail) | refine wx0 ?_ | (refine s_end hk ?_; clear hk a; intro a hk) | fail))
    exact done1 hk (h := ⟨by rw [hF], hS.nil⟩)
theorem key_any (s : ByteArray) (hs : s.size ≤ 1000000) (w0 : World) : Calls Tryz.prog 93 #[.string s] w0 (Ret fun v w => v = .bool (keyS s) ∧ St w0 [] w) := by
  refine enter Tryz.func93 rfl Tryz.ntmps93 rfl (fun a hk => ?_); have hS := St.refl w0
  have he := emp_iff (s := s)
  by_cases h0 : s = ⟨#[]⟩
  · have h1 := he.1 h0
    (repeat' (first | (show wpListIn _ _ _ _ _ (_ :: _) _ _; first | (refine wx1 ?_; clear hk a; intro a hk) | (refine wx2 ?_ ?_ <;> (intro hp; clear hk a; intro a hk)) | (refine wx3 ?_; clear hk hS a; intro w b hS a hk) | (refine wx4 ?_; clear hk hS a; intro w hS a hk) | (refine wx5 ?_; clear hk hS a; intro w v hS a hk) | fail) | refine wx0 ?_ | (refine s_end hk ?_; clear hk a; intro a hk) | fail))
    all_goals first
      | exact done1 hk (h := ⟨by unfold keyS; rw [decide_eq_false (by omega)]; rfl, hS.nil⟩)
      | (exfalso; contradiction)
  · have h1 : s.size ≠ 0 := fun h => h0 (he.2 h)
    by_cases h2 : s.size ≤ 16
    · (repeat' (first | (show wpListIn _ _ _ _ _ (_ :: _) _ _; first | (refine wx1 ?_; clear hk a; intro a hk) | (refine wx2 ?_ ?_ <;> (intro hp; clear hk a; intro a hk)) | (refine wx3 ?_; clear hk hS a; intro w b hS a hk) | (refine wx4 ?_; clear hk hS a; intro w hS a hk) | (refine wx5 ?_; clear hk hS a; intro w v hS a hk) | fail) | refine wx0 ?_ | (refine s_end hk ?_; clear hk a; intro a hk) | fail))
      refine sg hk (g_callO hk (hf := by kernel_rfl) (hc := all_any 127 plaB (by kernel_rfl) plain_any s hs _) (h := ?_)); clear hk a; rintro _ w ⟨rfl, hS1⟩ a hk; replace hS := hS.call0 hS1; clear hS1
      (repeat' (first | (show wpListIn _ _ _ _ _ (_ :: _) _ _; first | (refine wx1 ?_; clear hk a; intro a hk) | (refine wx2 ?_ ?_ <;> (intro hp; clear hk a; intro a hk)) | (refine wx3 ?_; clear hk hS a; intro w b hS a hk) | (refine wx4 ?_; clear hk hS a; intro w hS a hk) | (refine wx5 ?_; clear hk hS a; intro w v hS a hk) | fail) | refine wx0 ?_ | (refine s_end hk ?_; clear hk a; intro a hk) | fail))
      exact done1 hk (h := ⟨by unfold keyS; rw [decide_eq_true (by omega)]; rfl, hS.nil⟩)
    · (repeat' (first | (show wpListIn _ _ _ _ _ (_ :: _) _ _; first | (refine wx1 ?_; clear hk a; intro a hk) | (refine wx2 ?_ ?_ <;> (intro hp; clear hk a; intro a hk)) | (refine wx3 ?_; clear hk hS a; intro w b hS a hk) | (refine wx4 ?_; clear hk hS a; intro w hS a hk) | (refine wx5 ?_; clear hk hS a; intro w v hS a hk) | fail) | refine wx0 ?_ | (refine s_end hk ?_; clear hk a; intro a hk) | fail))
      exact done1 hk (h := ⟨by unfold keyS; rw [decide_eq_false (by omega)]; rfl, hS.nil⟩)
theorem name_any (s : ByteArray) (hs : s.size ≤ 1000000) (w0 : World) : Calls Tryz.prog 75 #[.string s] w0 (Ret fun v w => v = .bool (nameS s) ∧ St w0 [] w) := by
  refine enter Tryz.func75 rfl Tryz.ntmps75 rfl (fun a hk => ?_); have hS := St.refl w0
  (repeat' (first | (show wpListIn _ _ _ _ _ (_ :: _) _ _; first | (refine wx1 ?_; clear hk a; intro a hk) | (refine wx2 ?_ ?_ <;> (intro hp; clear hk a; intro a hk)) | (refine wx3 ?_; clear hk hS a; intro w b hS a hk) | (refine wx4 ?_; clear hk hS a; intro w hS a hk) | (refine wx5 ?_; clear hk hS a; intro w v hS a hk) | fail) | refine wx0 ?_ | (refine s_end hk ?_; clear hk a; intro a hk) | fail))
  refine sg hk (g_callO hk (hf := by kernel_rfl) (hc := key_any s hs _) (h := ?_)); clear hk a; rintro _ w ⟨rfl, hS1⟩ a hk; replace hS := hS.call0 hS1; clear hS1
  cases h : keyS s with
  | false =>
    rw [h] at hk
    (repeat' (first | (show wpListIn _ _ _ _ _ (_ :: _) _ _; first | (refine wx1 ?_; clear hk a; intro a hk) | (refine wx2 ?_ ?_ <;> (intro hp; clear hk a; intro a hk)) | (refine wx3 ?_; clear hk hS a; intro w b hS a hk) | (refine wx4 ?_; clear hk hS a; intro w hS a hk) | (refine wx5 ?_; clear hk hS a; intro w v hS a hk) | fail) | refine wx0 ?_ | (refine s_end hk ?_; clear hk a; intro a hk) | fail))
    exact done1 hk (h := ⟨by unfold nameS; rw [h]; rfl, hS.nil⟩)
  | true =>
    rw [h] at hk
    have h0 : 0 < s.size := by unfold keyS at h; simp at h; omega
    (repeat' (first | (show wpListIn _ _ _ _ _ (_ :: _) _ _; first | (refine wx1 ?_; clear hk a; intro a hk) | (refine wx2 ?_ ?_ <;> (intro hp; clear hk a; intro a hk)) | (refine wx3 ?_; clear hk hS a; intro w b hS a hk) | (refine wx4 ?_; clear hk hS a; intro w hS a hk) | (refine wx5 ?_; clear hk hS a; intro w v hS a hk) | fail) | refine wx0 ?_ | (refine s_end hk ?_; clear hk a; intro a hk) | fail))
    refine sg hk (g_callO hk (hf := by kernel_rfl) (hc := letter_any s[0] _) (h := ?_)); clear hk a; rintro _ w ⟨rfl, hS1⟩ a hk; replace hS := hS.call0 hS1; clear hS1
    (repeat' (first | (show wpListIn _ _ _ _ _ (_ :: _) _ _; first | (refine wx1 ?_; clear hk a; intro a hk) | (refine wx2 ?_ ?_ <;> (intro hp; clear hk a; intro a hk)) | (refine wx3 ?_; clear hk hS a; intro w b hS a hk) | (refine wx4 ?_; clear hk hS a; intro w hS a hk) | (refine wx5 ?_; clear hk hS a; intro w v hS a hk) | fail) | refine wx0 ?_ | (refine s_end hk ?_; clear hk a; intro a hk) | fail))
    exact done1 hk (h := ⟨by unfold nameS; rw [h, head_at h0]; rfl, hS.nil⟩)
theorem value_any (s : ByteArray) (hs : s.size ≤ 1000000) (w0 : World) : Calls Tryz.prog 104 #[.string s] w0 (Ret fun v w => v = .bool (valS s) ∧ St w0 [] w) := by
  refine enter Tryz.func104 rfl Tryz.ntmps104 rfl (fun a hk => ?_); have hS := St.refl w0
  by_cases h2 : s.size ≤ 32
  · (repeat' (first | (show wpListIn _ _ _ _ _ (_ :: _) _ _; first | (refine wx1 ?_; clear hk a; intro a hk) | (refine wx2 ?_ ?_ <;> (intro hp; clear hk a; intro a hk)) | (refine wx3 ?_; clear hk hS a; intro w b hS a hk) | (refine wx4 ?_; clear hk hS a; intro w hS a hk) | (refine wx5 ?_; clear hk hS a; intro w v hS a hk) | fail) | refine wx0 ?_ | (refine s_end hk ?_; clear hk a; intro a hk) | fail))
    refine sg hk (g_callO hk (hf := by kernel_rfl) (hc := all_any 132 visB (by kernel_rfl) visible_any s hs _) (h := ?_)); clear hk a; rintro _ w ⟨rfl, hS1⟩ a hk; replace hS := hS.call0 hS1; clear hS1
    (repeat' (first | (show wpListIn _ _ _ _ _ (_ :: _) _ _; first | (refine wx1 ?_; clear hk a; intro a hk) | (refine wx2 ?_ ?_ <;> (intro hp; clear hk a; intro a hk)) | (refine wx3 ?_; clear hk hS a; intro w b hS a hk) | (refine wx4 ?_; clear hk hS a; intro w hS a hk) | (refine wx5 ?_; clear hk hS a; intro w v hS a hk) | fail) | refine wx0 ?_ | (refine s_end hk ?_; clear hk a; intro a hk) | fail))
    exact done1 hk (h := ⟨by unfold valS; rw [decide_eq_true (by omega)]; rfl, hS.nil⟩)
  · (repeat' (first | (show wpListIn _ _ _ _ _ (_ :: _) _ _; first | (refine wx1 ?_; clear hk a; intro a hk) | (refine wx2 ?_ ?_ <;> (intro hp; clear hk a; intro a hk)) | (refine wx3 ?_; clear hk hS a; intro w b hS a hk) | (refine wx4 ?_; clear hk hS a; intro w hS a hk) | (refine wx5 ?_; clear hk hS a; intro w v hS a hk) | fail) | refine wx0 ?_ | (refine s_end hk ?_; clear hk a; intro a hk) | fail))
    exact done1 hk (h := ⟨by unfold valS; rw [decide_eq_false (by omega)]; rfl, hS.nil⟩)
end Go.Proofs.YtipdgobplfkipaaGreatDoor
namespace Go.Proofs.YtipdgobplfkipaaGreatDoor
open Go.RowKit
set_option maxRecDepth 100000
attribute [local irreducible] Go.Code.wpIn Go.wpListIn Go.Calls Gives Go.Exit.then Go.Exit.inBlock Done ObxE

def prefB (s p : ByteArray) : Bool := decide (p.size ≤ s.size ∧ s.extract 0 p.size = p)
theorem cut36_any (s p : ByteArray) (w0 : World) : Calls Tryz.prog 148 #[.string s, .string p] w0 (Ret fun v w => v = .tuple #[.string (if prefB s p then s.extract p.size s.size else s), .bool (prefB s p)] ∧ St w0 [] w) := by
  refine enter Tryz.func148 rfl Tryz.ntmps148 rfl (fun a hk => ?_); have hS := St.refl w0
  (repeat' (first | (show wpListIn _ _ _ _ _ (_ :: _) _ _; first | (refine wx1 ?_; clear hk a; intro a hk) | (refine wx2 ?_ ?_ <;> (intro hp; clear hk a; intro a hk)) | (refine wx3 ?_; clear hk hS a; intro w b hS a hk) | (refine wx4 ?_; clear hk hS a; intro w hS a hk) | (refine wx5 ?_; clear hk hS a; intro w v hS a hk) | fail) | refine wx0 ?_ | (refine s_end hk ?_; clear hk a; intro a hk) | fail))
  refine sg hk (g_callO hk (hf := by kernel_rfl) (hc := prefix_any s p _) (h := ?_)); clear hk a; rintro _ w ⟨rfl, hS1⟩ a hk; replace hS := hS.call0 hS1; clear hS1
  cases h : prefB s p with
  | false =>
    have h' : decide (p.size ≤ s.size ∧ s.extract 0 p.size = p) = false := h
    rw [h'] at hk
    (repeat' (first | (show wpListIn _ _ _ _ _ (_ :: _) _ _; first | (refine wx1 ?_; clear hk a; intro a hk) | (refine wx2 ?_ ?_ <;> (intro hp; clear hk a; intro a hk)) | (refine wx3 ?_; clear hk hS a; intro w b hS a hk) | (refine wx4 ?_; clear hk hS a; intro w hS a hk) | (refine wx5 ?_; clear hk hS a; intro w v hS a hk) | fail) | refine wx0 ?_ | (refine s_end hk ?_; clear hk a; intro a hk) | fail))
    exact done2 hk (h := ⟨by simp, hS.nil⟩)
  | true =>
    have h' : decide (p.size ≤ s.size ∧ s.extract 0 p.size = p) = true := h
    rw [h'] at hk
    have hp : p.size ≤ s.size := (of_decide_eq_true h').1
    (repeat' (first | (show wpListIn _ _ _ _ _ (_ :: _) _ _; first | (refine wx1 ?_; clear hk a; intro a hk) | (refine wx2 ?_ ?_ <;> (intro hp; clear hk a; intro a hk)) | (refine wx3 ?_; clear hk hS a; intro w b hS a hk) | (refine wx4 ?_; clear hk hS a; intro w hS a hk) | (refine wx5 ?_; clear hk hS a; intro w v hS a hk) | fail) | refine wx0 ?_ | (refine s_end hk ?_; clear hk a; intro a hk) | fail))
    exact done2 hk (h := ⟨by simp, hS.nil⟩)
theorem cutPrefix_any (s p : ByteArray) (w0 : World) : Calls Tryz.prog 133 #[.string s, .string p] w0 (Ret fun v w => v = .tuple #[.string (if prefB s p then s.extract p.size s.size else s), .bool (prefB s p)] ∧ St w0 [] w) := by
  refine enter Tryz.func133 rfl Tryz.ntmps133 rfl (fun a hk => ?_); have hS := St.refl w0
  (repeat' (first | (show wpListIn _ _ _ _ _ (_ :: _) _ _; first | (refine wx1 ?_; clear hk a; intro a hk) | (refine wx2 ?_ ?_ <;> (intro hp; clear hk a; intro a hk)) | (refine wx3 ?_; clear hk hS a; intro w b hS a hk) | (refine wx4 ?_; clear hk hS a; intro w hS a hk) | (refine wx5 ?_; clear hk hS a; intro w v hS a hk) | fail) | refine wx0 ?_ | (refine s_end hk ?_; clear hk a; intro a hk) | fail))
  refine sg hk (g_callO hk (hf := by kernel_rfl) (hc := cut36_any s p _) (h := ?_)); clear hk a; rintro _ w ⟨rfl, hS1⟩ a hk; replace hS := hS.call0 hS1; clear hS1
  (repeat' (first | (show wpListIn _ _ _ _ _ (_ :: _) _ _; first | (refine wx1 ?_; clear hk a; intro a hk) | (refine wx2 ?_ ?_ <;> (intro hp; clear hk a; intro a hk)) | (refine wx3 ?_; clear hk hS a; intro w b hS a hk) | (refine wx4 ?_; clear hk hS a; intro w hS a hk) | (refine wx5 ?_; clear hk hS a; intro w v hS a hk) | fail) | refine wx0 ?_ | (refine s_end hk ?_; clear hk a; intro a hk) | fail))
  exact done2 hk (h := ⟨rfl, hS.nil⟩)

instance encBy : Enc UInt8 := ⟨0, fun x => [.int .u8 (x.toNat : Nat)], fun _ => rfl, fun _ u h => by rw [List.mem_singleton] at h; subst h; rfl⟩
def bysF (s : ByteArray) : List UInt8 := s.data.toList
theorem bys_len (s : ByteArray) : (bysF s).length = s.size := by simp [bysF]
theorem enc_bys : ∀ l : List UInt8, enc l = l.map (fun b => Value.int .u8 (b.toNat : Nat))
  | [] => rfl
  | b :: l => by rw [enc_cons, enc_bys l]; rfl
theorem bys_rd {w : World} {b : Nat} {s : ByteArray} {cap : Nat} {e : TypeId} {fr : Nat × Nat} (h : w.heap[b]? = some (.cells (bytesRow s cap) e fr)) (hc : s.size ≤ cap) (hm : cap ≤ maxLen) : SlT (bysF s) (.slice (some ⟨b, 0, none⟩) s.size cap) w := by
  refine ⟨by rw [enc_len], by rw [bys_len]; omega, .inr ⟨⟨b, 0, none⟩, cap, by rw [bys_len], by rw [bys_len]; exact hc, hm, fun j u hj => ⟨rfl, ?_⟩⟩⟩
  unfold bysF at hj
  rw [enc_bys, List.getElem?_map] at hj
  unfold World.cell?
  simp only [Nat.zero_add]
  rw [h]
  simp only
  have hjs : j < s.data.toList.length := by
    rcases Nat.lt_or_ge j s.data.toList.length with g | g
    · exact g
    · rw [List.getElem?_eq_none g] at hj; cases hj
  rw [List.getElem?_eq_getElem hjs] at hj
  simp only [Option.map_some, Option.some.injEq] at hj
  have hjs' : j < s.data.size := by simpa using hjs
  unfold bytesRow
  rw [Array.getElem?_append_left (by simpa using hjs')]
  simp only [← hj]
  simp
  exact ⟨s.data[j], Array.getElem?_eq_getElem hjs', rfl⟩

section
variable {P : Program} {a : Act} {w w' : World} {w0 : Bs} {n : Nat} {l : List (Nat × Value)} {L : List HP} {df : List Deferred}
  {dst : Option Nat} {R : Value → World → Prop} {ty : TypeId} {pos : String} {af : Array Edge} {g : Option (Nat × Bool)}
theorem g_bytes {x : Operand} {t t' e : TypeId} {s : ByteArray} (hk : Kn df n a l) (hS : St w0 L w) (hs : s.size ≤ maxLen)
    (h : ∀ w' b cap fr, s.size ≤ cap → cap ≤ maxLen → St w0 (obj b (.cells (bytesRow s cap) e fr) :: L) w' → R (.slice (some ⟨b, 0, none⟩) s.size cap) w')
    (ht : P.underlying t = some .string) (hd : elOf P t' = some e) (he : P.underlying e = some (.int .u8)) (hx : ev l x = some (.string s) := by rfl) :
    Gives P ⟨dst, .convert t t' x, ty, pos, af, g⟩ a w R := by
  have hr := run_bytes_of_string (P := P) w t t' e s ht (elOf_und hd) he
  have key := h _ _ _ _ (grownCap_ge w s.size 0 e) (grownCap_le_maxLen w s.size 0 e hs) (hS.drew.newObj (.cells (bytesRow s (grownCap w s.size 0 e)) e ((bytesRow s (grownCap w s.size 0 e)).size, (bytesRow s (grownCap w s.size 0 e)).size + 1)))
  refine givesv (v := .slice (some ⟨w.heap.size, 0, none⟩) s.size (grownCap w s.size 0 e)) ?_ key
  simp [execOp, hk.eval hx, hr]
theorem g_subB {x y : Operand} {t t' : TypeId} {p q : Int} (hk : Kn df n a l) (h : R (.int .u8 (p - q)) w)
    (hx : ev l x = some (.int .u8 p) := by rfl) (hy : ev l y = some (.int .u8 q) := by rfl)
    (hlo : 0 ≤ p - q) (hhi : p - q ≤ 255) :
    Gives P ⟨dst, .binOp .sub t x y t', ty, pos, af, g⟩ a w R :=
  givesv (v := .int .u8 (p - q)) (by
    have e : IntKind.u8.wrap (p - q) = p - q := by
      have : IntKind.u8.wrap (p - q) = (p - q) % 256 := rfl
      rw [this]; omega
    simp [execOp, hk.eval hx, hk.eval hy, eqGuard, binOp_sub, Op.intArith, e]) h
theorem g_negW {x : Operand} {t : TypeId} {p : Int} (hk : Kn df n a l) (h : R (.int .i64 (-p)) w) (hx : ev l x = some (.int .i64 p) := by rfl) (hlo : -9223372036854775807 ≤ p) (hhi : p ≤ 9223372036854775807) :
    Gives P ⟨dst, .unOp .neg t x, ty, pos, af, g⟩ a w R :=
  givesv (v := .int .i64 (-p)) (by
    have e : IntKind.i64.wrap (0 - p) = -p := by rw [IntWalk.i64_in _ ⟨by omega, by omega⟩]; omega
    simp [execOp, hk.eval hx, Op.unary, Op.intArith]
    simpa using e) h
end

theorem ext_list (s : ByteArray) (i j : Nat) : (s.extract i j).data.toList = (s.data.toList.take j).drop i := by
  simp [ByteArray.data_extract, Array.toList_extract, List.drop_take]
theorem pref_sgn (s : ByteArray) : prefB s ⟨#[45]⟩ = sgnL s.data.toList := by
  unfold prefB sgnL
  have e1 : (⟨#[45]⟩ : ByteArray).size = 1 := rfl
  rw [e1]
  have h2 : s.extract 0 1 = ⟨#[45]⟩ ↔ s.data.toList.take 1 = [45] := by
    constructor
    · intro h
      have := congrArg (fun x : ByteArray => x.data.toList) h
      simp only [ext_list, List.drop_zero] at this
      exact this
    · intro h
      have := ext_list s 0 1
      rw [List.drop_zero, h] at this
      cases hx : s.extract 0 1 with
      | mk d => rw [hx] at this; congr 1; exact Array.toList_inj.1 this
  have hsz : s.size = s.data.toList.length := by simp
  cases hl : s.data.toList with
  | nil =>
    rw [hl] at hsz
    simp at hsz
    simp [hsz]
  | cons x r =>
    rw [hl] at h2 hsz
    simp only [List.take_succ_cons, List.take_zero, List.cons.injEq, and_true] at h2
    simp only [List.length_cons] at hsz
    simp only [List.head?_cons, Option.some.injEq]
    by_cases e : x = 45
    · simp [h2.2 e, e, hsz]
    · have : ¬ s.extract 0 1 = ⟨#[45]⟩ := fun h => e (h2.1 h)
      simp [this, e]
def digS (s : ByteArray) : ByteArray := if prefB s ⟨#[45]⟩ then s.extract 1 s.size else s
theorem dig_list (s : ByteArray) : (digS s).data.toList = digL s.data.toList := by
  unfold digS digL
  rw [pref_sgn]
  cases sgnL s.data.toList with
  | true =>
    simp only [if_true]
    rw [ext_list, List.take_of_length_le (by simp), List.drop_one]
  | false => rfl
theorem val_lt : ∀ (n : Nat) (l : List UInt8), l.length = n → l.all digB = true → valL l < 10 ^ n
  | 0, l, hl, _ => by rw [List.eq_nil_of_length_eq_zero hl]; decide
  | n + 1, l, hl, hd => by
    rcases List.eq_nil_or_concat l with rfl | ⟨e, b, rfl⟩
    · simp at hl
    · rw [List.concat_eq_append] at *
      rw [List.all_append] at hd
      simp only [Bool.and_eq_true, List.all_cons, List.all_nil, Bool.and_true, digB, decide_eq_true_eq] at hd
      have ih := val_lt n e (by simp at hl; exact hl) hd.1
      rw [val_snoc, Nat.pow_succ]
      omega
theorem val_small {l : List UInt8} (hl : l.length ≤ 10) (hd : l.all digB = true) : valL l < 10000000000 := by
  have h1 := val_lt _ l rfl hd
  have h2 : 10 ^ l.length ≤ 10 ^ 10 := Nat.pow_le_pow_right (by omega) hl
  exact Nat.lt_of_lt_of_le h1 (Nat.le_trans h2 (by decide))
theorem val_take {s : ByteArray} {i : Nat} (h : i < s.size) : valL (s.data.toList.take (i + 1)) = 10 * valL (s.data.toList.take i) + (s[i].toNat - 48) := by
  rw [List.take_add_one, byte_at h]
  exact val_snoc _ _
theorem dig_at {s : ByteArray} {i : Nat} (h : i < s.size) (hd : s.data.toList.all digB = true) : 48 ≤ s[i].toNat ∧ s[i].toNat ≤ 57 := by
  have := List.all_eq_true.1 hd _ (List.mem_of_getElem? (byte_at h))
  simpa [digB] using this
theorem all_tk {s : ByteArray} {i : Nat} (hd : s.data.toList.all digB = true) : (s.data.toList.take i).all digB = true :=
  List.all_eq_true.2 fun x hx => List.all_eq_true.1 hd x (List.mem_of_mem_take hx)
end Go.Proofs.YtipdgobplfkipaaGreatDoor
namespace Go.Proofs.YtipdgobplfkipaaGreatDoor
open Go.RowKit
set_option maxRecDepth 100000
attribute [local irreducible] Go.Code.wpIn Go.wpListIn Go.Calls Gives Go.Exit.then Go.Exit.inBlock Done ObxE

theorem index1_any (s : ByteArray) (c : UInt8) (w0 : World) : Calls Tryz.prog 131 #[.string s, .string ⟨#[c]⟩] w0 (Ret fun v w => v = .int .i64 (if scan (notB c) s 0 < s.size then ((scan (notB c) s 0 : Nat) : Int) else -1) ∧ St w0 [] w) := by
  refine (Tryz.stringslite_Index_one s c w0).mono (fun e w h => ?_)
  obtain ⟨rfl, rfl⟩ := h
  have h1 := idx_scan c s _ 0 (Nat.le_refl _) (Nat.zero_le _)
  rw [List.drop_zero] at h1
  refine ⟨_, rfl, ?_, St.refl w⟩
  rw [h1]
  by_cases h : scan (notB c) s 0 < s.size
  · rw [if_pos h, if_pos h]; simp
  · rw [if_neg h, if_neg h]
theorem cut37_any (s : ByteArray) (c : UInt8) (hs : s.size ≤ 100000000) (w0 : World) : Calls Tryz.prog 99 #[.string s, .string ⟨#[c]⟩] w0 (Ret fun v w => v = .tuple #[.string (cutR c s).1, .string (cutR c s).2.1, .bool (cutR c s).2.2] ∧ St w0 [] w) := by
  refine enter Tryz.func99 rfl Tryz.ntmps99 rfl (fun a hk => ?_); have hS := St.refl w0
  (repeat' (first | (show wpListIn _ _ _ _ _ (_ :: _) _ _; first | (refine wx1 ?_; clear hk a; intro a hk) | (refine wx2 ?_ ?_ <;> (intro hp; clear hk a; intro a hk)) | (refine wx3 ?_; clear hk hS a; intro w b hS a hk) | (refine wx4 ?_; clear hk hS a; intro w hS a hk) | (refine wx5 ?_; clear hk hS a; intro w v hS a hk) | fail) | refine wx0 ?_ | (refine s_end hk ?_; clear hk a; intro a hk) | fail))
  refine sg hk (g_callO hk (hf := by kernel_rfl) (hc := index1_any s c _) (h := ?_)); clear hk a; rintro _ w ⟨rfl, hS1⟩ a hk; replace hS := hS.call0 hS1; clear hS1
  unfold cutR
  by_cases h : scan (notB c) s 0 < s.size
  · rw [if_pos h] at hk
    rw [if_pos h]
    generalize scan (notB c) s 0 = j at *
    have h1 : (⟨#[c]⟩ : ByteArray).size = 1 := rfl
    (repeat' (first | (show wpListIn _ _ _ _ _ (_ :: _) _ _; first | (refine wx1 ?_; clear hk a; intro a hk) | (refine wx2 ?_ ?_ <;> (intro hp; clear hk a; intro a hk)) | (refine wx3 ?_; clear hk hS a; intro w b hS a hk) | (refine wx4 ?_; clear hk hS a; intro w hS a hk) | (refine wx5 ?_; clear hk hS a; intro w v hS a hk) | fail) | refine wx0 ?_ | (refine s_end hk ?_; clear hk a; intro a hk) | fail))
    refine wp_drawn 10 mixed (by kernel_rfl) hk hS ?_; clear hk hS a
    (repeat' (first | (show ObxE _ _ _ _ _ _ _ _ _ (_ :: _) _ _ _; first | refine ox1 ?_ | (refine ox2 ?_ ?_ <;> intro hp) | fail) | fail))
    refine obe_nil ⟨rfl, ?_⟩; intro us a w hk hS
    (repeat' (first | (show wpListIn _ _ _ _ _ (_ :: _) _ _; first | (refine wx1 ?_; clear hk a; intro a hk) | (refine wx2 ?_ ?_ <;> (intro hp; clear hk a; intro a hk)) | (refine wx3 ?_; clear hk hS a; intro w b hS a hk) | (refine wx4 ?_; clear hk hS a; intro w hS a hk) | (refine wx5 ?_; clear hk hS a; intro w v hS a hk) | fail) | refine wx0 ?_ | (refine s_end hk ?_; clear hk a; intro a hk) | fail))
    exact done3R hk rfl (.tmp rfl) (.tmp rfl) (.tmp rfl) (h := ⟨rfl, hS⟩)
  · rw [if_neg h] at hk
    rw [if_neg h]
    (repeat' (first | (show wpListIn _ _ _ _ _ (_ :: _) _ _; first | (refine wx1 ?_; clear hk a; intro a hk) | (refine wx2 ?_ ?_ <;> (intro hp; clear hk a; intro a hk)) | (refine wx3 ?_; clear hk hS a; intro w b hS a hk) | (refine wx4 ?_; clear hk hS a; intro w hS a hk) | (refine wx5 ?_; clear hk hS a; intro w v hS a hk) | fail) | refine wx0 ?_ | (refine s_end hk ?_; clear hk a; intro a hk) | fail))
    exact done3R hk rfl (.tmp rfl) (.tmp rfl) (.tmp rfl) (h := ⟨rfl, hS⟩)
theorem scut_any (s : ByteArray) (c : UInt8) (hs : s.size ≤ 100000000) (w0 : World) : Calls Tryz.prog 73 #[.string s, .string ⟨#[c]⟩] w0 (Ret fun v w => v = .tuple #[.string (cutR c s).1, .string (cutR c s).2.1, .bool (cutR c s).2.2] ∧ St w0 [] w) := by
  refine enter Tryz.func73 rfl Tryz.ntmps73 rfl (fun a hk => ?_); have hS := St.refl w0
  (repeat' (first | (show wpListIn _ _ _ _ _ (_ :: _) _ _; first | (refine wx1 ?_; clear hk a; intro a hk) | (refine wx2 ?_ ?_ <;> (intro hp; clear hk a; intro a hk)) | (refine wx3 ?_; clear hk hS a; intro w b hS a hk) | (refine wx4 ?_; clear hk hS a; intro w hS a hk) | (refine wx5 ?_; clear hk hS a; intro w v hS a hk) | fail) | refine wx0 ?_ | (refine s_end hk ?_; clear hk a; intro a hk) | fail))
  refine sg hk (g_callO hk (hf := by kernel_rfl) (hc := cut37_any s c hs _) (h := ?_)); clear hk a; rintro _ w ⟨rfl, hS1⟩ a hk; replace hS := hS.call0 hS1; clear hS1
  (repeat' (first | (show wpListIn _ _ _ _ _ (_ :: _) _ _; first | (refine wx1 ?_; clear hk a; intro a hk) | (refine wx2 ?_ ?_ <;> (intro hp; clear hk a; intro a hk)) | (refine wx3 ?_; clear hk hS a; intro w b hS a hk) | (refine wx4 ?_; clear hk hS a; intro w hS a hk) | (refine wx5 ?_; clear hk hS a; intro w v hS a hk) | fail) | refine wx0 ?_ | (refine s_end hk ?_; clear hk a; intro a hk) | fail))
  exact done3R hk rfl (.tmp rfl) (.tmp rfl) (.tmp rfl) (h := ⟨rfl, hS⟩)

section
variable {B : Bs} {L : List HP} {w : World}
theorem word_any (b : Nat) (s : ByteArray) (i o : Nat) (hs : s.size ≤ 100000000) (hi : i ≤ s.size) (hS : St B (rdr b s i o :: L) w) :
    Calls Tryz.prog 74 #[.pointer (some ⟨b, 0, none⟩)] w
      (RoP (fun v w' => (tokF s i).kind = 4 ∧ v = .tuple #[.string (tokF s i).txt, .int .i64 ((tokF s i).at_ : Int)] ∧ St B (rdr b s (tokF s i).till o :: L) w')
        (fun ch w' => (tokF s i).kind ≠ 4 ∧ ch = thrown (tokF s i).at_ 2 ∧ St B L w')) := by
  have hle := scan_le blkB s _ i (Nat.le_refl _) hi
  have htw := tok_word (s := s) (i := i)
  have htn := tok_noword (s := s) hi
  refine enterP Tryz.func74 rfl Tryz.ntmps74 rfl (fun a hk => ?_)
  (repeat' (first | (show wpListIn _ _ _ _ _ (_ :: _) _ _; first | (refine wx1 ?_; clear hk a; intro a hk) | (refine wx2 ?_ ?_ <;> (intro hp; clear hk a; intro a hk)) | (refine wx3 ?_; clear hk hS a; intro w b hS a hk) | (refine wx4 ?_; clear hk hS a; intro w hS a hk) | (refine wx5 ?_; clear hk hS a; intro w v hS a hk) | fail) | refine wx0 ?_ | (refine s_end hk ?_; clear hk a; intro a hk) | fail))
  refine sg hk (g_callO hk (hf := by kernel_rfl) (hc := skip_any b s i o hs hi hS) (h := ?_)); clear hk hS a; intro vr w hS a hk
  generalize scan blkB s i = j at *
  have hge := scan_ge visB s _ j (Nat.le_refl _)
  have hle2 := scan_le visB s _ j (Nat.le_refl _) hle
  (repeat' (first | (show wpListIn _ _ _ _ _ (_ :: _) _ _; first | (refine wx1 ?_; clear hk a; intro a hk) | (refine wx2 ?_ ?_ <;> (intro hp; clear hk a; intro a hk)) | (refine wx3 ?_; clear hk hS a; intro w b hS a hk) | (refine wx4 ?_; clear hk hS a; intro w hS a hk) | (refine wx5 ?_; clear hk hS a; intro w v hS a hk) | fail) | refine wx0 ?_ | (refine s_end hk ?_; clear hk a; intro a hk) | fail))
  refine wp_while (fun _ => []) (fun x => rdr b s x o :: L) (fun x => j ≤ x ∧ x ≤ s.size ∧ scan visB s x = scan visB s j) (fun x => s.size - x) j hk (by repeat (first | exact trivial | refine ⟨rfl, ?_⟩)) hS.sb ⟨Nat.le_refl _, hle, rfl⟩ ?_
  clear hk hS a
  rintro x a w hk hS ⟨hjx, hx, hsc⟩
  by_cases hgo : x < scan visB s j
  · by_cases hxl : x < s.size
    · by_cases hv : visB s[x] = true
      · have hst := scan_yes (p := visB) hxl hv
        have hwd := fun w0 => worded_any s[x] w0
        rw [hv] at hwd
        (repeat' (first | (show wpListIn _ _ _ _ _ (_ :: _) _ _; first | (refine wx1 ?_; clear hk a; intro a hk) | (refine wx2 ?_ ?_ <;> (intro hp; clear hk a; intro a hk)) | (refine wx3 ?_; clear hk hS a; intro w b hS a hk) | (refine wx4 ?_; clear hk hS a; intro w hS a hk) | (refine wx5 ?_; clear hk hS a; intro w v hS a hk) | fail) | refine wx0 ?_ | (refine s_end hk ?_; clear hk a; intro a hk) | fail))
        refine wp_drawn 22 mixed (by kernel_rfl) hk hS ?_; clear hk hS a
        (repeat' (first | (show ObxE _ _ _ _ _ _ _ _ _ (_ :: _) _ _ _; first | refine ox1 ?_ | (refine ox2 ?_ ?_ <;> intro hp) | fail) | fail))
        refine' obe_val (fun us a w hk hd hS => ?_) ?_; rotate_left; focus (have hk := Kn.vw hk (by repeat (first | exact VW.nil | apply VW.val rfl | apply VW.base rfl rfl | apply VW.res rfl | apply VW.upd rfl | apply VW.cpy rfl | apply VW.dep rfl | apply VW.fn rfl | apply VW.lnd rfl | apply VW.tak rfl)); exact g_callO hk (hf := by kernel_rfl) (hc := hwd _) (h := fun _ _ h => h))
        (repeat' (first | (show ObxE _ _ _ _ _ _ _ _ _ (_ :: _) _ _ _; first | refine ox1 ?_ | (refine ox2 ?_ ?_ <;> intro hp) | fail) | fail))
        refine obe_nil ⟨rfl, ?_⟩; intro us a w hk hS
        (repeat' (first | (show wpListIn _ _ _ _ _ (_ :: _) _ _; first | (refine wx1 ?_; clear hk a; intro a hk) | (refine wx2 ?_ ?_ <;> (intro hp; clear hk a; intro a hk)) | (refine wx3 ?_; clear hk hS a; intro w b hS a hk) | (refine wx4 ?_; clear hk hS a; intro w hS a hk) | (refine wx5 ?_; clear hk hS a; intro w v hS a hk) | fail) | refine wx0 ?_ | (refine s_end hk ?_; clear hk a; intro a hk) | fail))
        exact ⟨x + 1, by omega, hk.sd, hS.sb, by omega, by omega, by rw [← hst]; exact hsc⟩
      · rw [scan_no (p := visB) hxl hv] at hsc; omega
    · rw [scan_end (p := visB) hxl] at hsc; omega
  · have hxe : x = scan visB s j := by
      have := scan_ge visB s _ x (Nat.le_refl _)
      omega
    have hout : ¬ (x < s.size) ∨ ∃ h : x < s.size, visB s[x] = false := by
      by_cases hxl : x < s.size
      · right
        refine ⟨hxl, ?_⟩
        cases hv : visB s[x] with
        | false => rfl
        | true =>
          have := scan_stop visB s _ j (Nat.le_refl _) (by rw [← hxe]; exact hxl)
          simp only [← hxe] at this
          exact absurd hv this
      · exact .inl hxl
    rcases hout with hxl | ⟨hxl, hv⟩
    · (repeat' (first | (show wpListIn _ _ _ _ _ (_ :: _) _ _; first | (refine wx1 ?_; clear hk a; intro a hk) | (refine wx2 ?_ ?_ <;> (intro hp; clear hk a; intro a hk)) | (refine wx3 ?_; clear hk hS a; intro w b hS a hk) | (refine wx4 ?_; clear hk hS a; intro w hS a hk) | (refine wx5 ?_; clear hk hS a; intro w v hS a hk) | fail) | refine wx0 ?_ | (refine s_end hk ?_; clear hk a; intro a hk) | fail))
      refine wp_drawn 22 mixed (by kernel_rfl) hk hS ?_; clear hk hS a
      (repeat' (first | (show ObxE _ _ _ _ _ _ _ _ _ (_ :: _) _ _ _; first | refine ox1 ?_ | (refine ox2 ?_ ?_ <;> intro hp) | fail) | fail))
      refine obe_nil ⟨rfl, ?_⟩; intro us a w hk hS
      by_cases hxj : j = x
      · (repeat' (first | (show wpListIn _ _ _ _ _ (_ :: _) _ _; first | (refine wx1 ?_; clear hk a; intro a hk) | (refine wx2 ?_ ?_ <;> (intro hp; clear hk a; intro a hk)) | (refine wx3 ?_; clear hk hS a; intro w b hS a hk) | (refine wx4 ?_; clear hk hS a; intro w hS a hk) | (refine wx5 ?_; clear hk hS a; intro w v hS a hk) | fail) | refine wx0 ?_ | (refine s_end hk ?_; clear hk a; intro a hk) | fail))
        refine sgP hk ((g_callP hk (hf := by kernel_rfl) (hc := fail_any j 2 _)).mono (fun v w h => h.elim) (fun ch w h a hk => ?_))
        obtain ⟨rfl, hS1⟩ := h
        (repeat (first | refine then_panic ?_ | refine inBlock_panic ?_))
        obtain ⟨h4, hat⟩ := htn (by omega)
        exact DoneP.panic hk ⟨h4, by rw [hat], (hS.call0 hS1).sub .cons_drop⟩
      · (repeat' (first | (show wpListIn _ _ _ _ _ (_ :: _) _ _; first | (refine wx1 ?_; clear hk a; intro a hk) | (refine wx2 ?_ ?_ <;> (intro hp; clear hk a; intro a hk)) | (refine wx3 ?_; clear hk hS a; intro w b hS a hk) | (refine wx4 ?_; clear hk hS a; intro w hS a hk) | (refine wx5 ?_; clear hk hS a; intro w v hS a hk) | fail) | refine wx0 ?_ | (refine s_end hk ?_; clear hk a; intro a hk) | fail))
        refine wp_drawn 13 mixed (by kernel_rfl) hk hS ?_; clear hk hS a
        (repeat' (first | (show ObxE _ _ _ _ _ _ _ _ _ (_ :: _) _ _ _; first | refine ox1 ?_ | (refine ox2 ?_ ?_ <;> intro hp) | fail) | fail))
        refine obe_nil ⟨rfl, ?_⟩; intro us a w hk hS
        (repeat' (first | (show wpListIn _ _ _ _ _ (_ :: _) _ _; first | (refine wx1 ?_; clear hk a; intro a hk) | (refine wx2 ?_ ?_ <;> (intro hp; clear hk a; intro a hk)) | (refine wx3 ?_; clear hk hS a; intro w b hS a hk) | (refine wx4 ?_; clear hk hS a; intro w hS a hk) | (refine wx5 ?_; clear hk hS a; intro w v hS a hk) | fail) | refine wx0 ?_ | (refine s_end hk ?_; clear hk a; intro a hk) | fail))
        have ht := htw (by omega)
        rw [ht]
        refine DoneP.ret (done2 hk (h := ⟨rfl, ?_, ?_⟩))
        · rw [← hxe]; rfl
        · rw [← hxe]; exact hS
    · have hwd := fun w0 => worded_any s[x] w0
      rw [hv] at hwd
      (repeat' (first | (show wpListIn _ _ _ _ _ (_ :: _) _ _; first | (refine wx1 ?_; clear hk a; intro a hk) | (refine wx2 ?_ ?_ <;> (intro hp; clear hk a; intro a hk)) | (refine wx3 ?_; clear hk hS a; intro w b hS a hk) | (refine wx4 ?_; clear hk hS a; intro w hS a hk) | (refine wx5 ?_; clear hk hS a; intro w v hS a hk) | fail) | refine wx0 ?_ | (refine s_end hk ?_; clear hk a; intro a hk) | fail))
      refine wp_drawn 22 mixed (by kernel_rfl) hk hS ?_; clear hk hS a
      (repeat' (first | (show ObxE _ _ _ _ _ _ _ _ _ (_ :: _) _ _ _; first | refine ox1 ?_ | (refine ox2 ?_ ?_ <;> intro hp) | fail) | fail))
      refine' obe_val (fun us a w hk hd hS => ?_) ?_; rotate_left; focus (have hk := Kn.vw hk (by repeat (first | exact VW.nil | apply VW.val rfl | apply VW.base rfl rfl | apply VW.res rfl | apply VW.upd rfl | apply VW.cpy rfl | apply VW.dep rfl | apply VW.fn rfl | apply VW.lnd rfl | apply VW.tak rfl)); exact g_callO hk (hf := by kernel_rfl) (hc := hwd _) (h := fun _ _ h => h))
      (repeat' (first | (show ObxE _ _ _ _ _ _ _ _ _ (_ :: _) _ _ _; first | refine ox1 ?_ | (refine ox2 ?_ ?_ <;> intro hp) | fail) | fail))
      refine obe_nil ⟨rfl, ?_⟩; intro us a w hk hS
      by_cases hxj : j = x
      · (repeat' (first | (show wpListIn _ _ _ _ _ (_ :: _) _ _; first | (refine wx1 ?_; clear hk a; intro a hk) | (refine wx2 ?_ ?_ <;> (intro hp; clear hk a; intro a hk)) | (refine wx3 ?_; clear hk hS a; intro w b hS a hk) | (refine wx4 ?_; clear hk hS a; intro w hS a hk) | (refine wx5 ?_; clear hk hS a; intro w v hS a hk) | fail) | refine wx0 ?_ | (refine s_end hk ?_; clear hk a; intro a hk) | fail))
        refine sgP hk ((g_callP hk (hf := by kernel_rfl) (hc := fail_any j 2 _)).mono (fun v w h => h.elim) (fun ch w h a hk => ?_))
        obtain ⟨rfl, hS1⟩ := h
        (repeat (first | refine then_panic ?_ | refine inBlock_panic ?_))
        obtain ⟨h4, hat⟩ := htn (by omega)
        exact DoneP.panic hk ⟨h4, by rw [hat], (hS.call0 hS1).sub .cons_drop⟩
      · (repeat' (first | (show wpListIn _ _ _ _ _ (_ :: _) _ _; first | (refine wx1 ?_; clear hk a; intro a hk) | (refine wx2 ?_ ?_ <;> (intro hp; clear hk a; intro a hk)) | (refine wx3 ?_; clear hk hS a; intro w b hS a hk) | (refine wx4 ?_; clear hk hS a; intro w hS a hk) | (refine wx5 ?_; clear hk hS a; intro w v hS a hk) | fail) | refine wx0 ?_ | (refine s_end hk ?_; clear hk a; intro a hk) | fail))
        refine wp_drawn 13 mixed (by kernel_rfl) hk hS ?_; clear hk hS a
        (repeat' (first | (show ObxE _ _ _ _ _ _ _ _ _ (_ :: _) _ _ _; first | refine ox1 ?_ | (refine ox2 ?_ ?_ <;> intro hp) | fail) | fail))
        refine obe_nil ⟨rfl, ?_⟩; intro us a w hk hS
        (repeat' (first | (show wpListIn _ _ _ _ _ (_ :: _) _ _; first | (refine wx1 ?_; clear hk a; intro a hk) | (refine wx2 ?_ ?_ <;> (intro hp; clear hk a; intro a hk)) | (refine wx3 ?_; clear hk hS a; intro w b hS a hk) | (refine wx4 ?_; clear hk hS a; intro w hS a hk) | (refine wx5 ?_; clear hk hS a; intro w v hS a hk) | fail) | refine wx0 ?_ | (refine s_end hk ?_; clear hk a; intro a hk) | fail))
        have ht := htw (by omega)
        rw [ht]
        refine DoneP.ret (done2 hk (h := ⟨rfl, ?_, ?_⟩))
        · rw [← hxe]; rfl
        · rw [← hxe]; exact hS
end
end Go.Proofs.YtipdgobplfkipaaGreatDoor
namespace Go.Proofs.YtipdgobplfkipaaGreatDoor
open Go.RowKit

section
variable {α : Type} [Enc α] [EncI α] {P : Program} {W : World}
end
end Go.Proofs.YtipdgobplfkipaaGreatDoor
namespace Go.Proofs.YtipdgobplfkipaaGreatDoor

section
variable {α κ : Type} [Lin κ] (key : α → κ)

theorem Lin.asym {a b : κ} (h : Lin.lt a b = true) : Lin.lt b a = false := by
  cases h2 : Lin.lt b a with
  | false => rfl
  | true => have := Lin.tr h h2; rw [Lin.irr] at this; cases this
theorem Lin.ne {a b : κ} (h : Lin.lt a b = true) : a ≠ b := fun e => by subst e; rw [Lin.irr] at h; cases h
theorem Lin.gt {a b : κ} (h : Lin.lt a b = false) (hn : a ≠ b) : Lin.lt b a = true := by
  cases h2 : Lin.lt b a with
  | true => rfl
  | false => exact absurd (Lin.tri h h2) hn
def cmpF (a b : κ) : Int := if Lin.lt a b = true then -1 else if Lin.lt b a = true then 1 else 0
theorem cmp_lt {a b : κ} (h : Lin.lt a b = true) : cmpF a b = -1 := if_pos h
theorem cmp_ge {a b : κ} (h : Lin.lt a b = false) : ¬ cmpF a b < 0 := by
  unfold cmpF
  rw [if_neg (by rw [h]; decide)]
  split <;> decide
theorem cmp_eq {a b : κ} : cmpF a b = 0 ↔ a = b := by
  unfold cmpF
  constructor
  · intro h
    split at h
    · cases h
    · split at h
      · cases h
      · exact Lin.tri (by simpa using ‹¬ Lin.lt a b = true›) (by simpa using ‹¬ Lin.lt b a = true›)
  · intro h
    subst h
    rw [if_neg (by rw [Lin.irr]; decide), if_neg (by rw [Lin.irr]; decide)]

def putF : List α → α → List α
  | [], e => [e]
  | x :: r, e => if Lin.lt (key e) (key x) = true then e :: x :: r else if key e = key x then e :: r else x :: putF r e
def snapF (l : List α) : List α := l.foldl (putF key) []
def lastF (l : List α) (k : κ) : Option α := l.reverse.find? (fun e => decide (key e = k))
def Rises (s : List α) : Prop := s.Pairwise (fun x y => Lin.lt (key x) (key y) = true)

theorem snap_snoc (l : List α) (e : α) : snapF key (l ++ [e]) = putF key (snapF key l) e := by simp [snapF]
theorem last_snoc (l : List α) (e : α) (k : κ) : lastF key (l ++ [e]) k = if key e = k then some e else lastF key l k := by
  simp only [lastF, List.reverse_append, List.reverse_cons, List.reverse_nil, List.nil_append, List.cons_append, List.find?_cons]
  by_cases h : key e = k <;> simp [h]
theorem last_key {l : List α} {k : κ} {e : α} (h : lastF key l k = some e) : key e = k := by
  have := List.find?_some h
  simpa using this
theorem last_mem {l : List α} {k : κ} {e : α} (h : lastF key l k = some e) : e ∈ l := by
  have := List.mem_of_find?_eq_some h
  simpa using this
theorem last_of_mem {l : List α} {e : α} (h : e ∈ l) : ∃ x, lastF key l (key e) = some x := by
  have : ((l.reverse.find? (fun x => decide (key x = key e))).isSome) = true := by
    rw [List.find?_isSome]
    exact ⟨e, by simpa using h, by simp⟩
  exact Option.isSome_iff_exists.1 this

theorem put_mem : ∀ {s : List α} {e x : α}, Rises key s → (x ∈ putF key s e ↔ x = e ∨ (x ∈ s ∧ key x ≠ key e))
  | [], e, x, _ => by simp [putF]
  | y :: r, e, x, h => by
    have h1 := (List.pairwise_cons.1 h).1
    have h2 := (List.pairwise_cons.1 h).2
    unfold putF
    by_cases hlt : Lin.lt (key e) (key y) = true
    · rw [if_pos hlt]
      have hy : key y ≠ key e := fun h => Lin.ne hlt h.symm
      have hr : ∀ z ∈ r, key z ≠ key e := fun z hz h => Lin.ne (Lin.tr hlt (h1 z hz)) h.symm
      simp only [List.mem_cons]
      constructor
      · rintro (h | h | h)
        · exact .inl h
        · exact .inr ⟨.inl h, by rw [h]; exact hy⟩
        · exact .inr ⟨.inr h, hr x h⟩
      · rintro (h | ⟨h | h, _⟩)
        · exact .inl h
        · exact .inr (.inl h)
        · exact .inr (.inr h)
    · rw [if_neg hlt]
      have hf : Lin.lt (key e) (key y) = false := by simpa using hlt
      by_cases he : key e = key y
      · rw [if_pos he]
        have hr : ∀ z ∈ r, key z ≠ key e := fun z hz h => Lin.ne (h1 z hz) (by rw [h, he])
        simp only [List.mem_cons]
        constructor
        · rintro (h | h)
          · exact .inl h
          · exact .inr ⟨.inr h, hr x h⟩
        · rintro (h | ⟨h | h, hn⟩)
          · exact .inl h
          · exact absurd (by rw [h, he]) hn
          · exact .inr h
      · rw [if_neg he]
        have ih := put_mem (e := e) (x := x) h2
        have hy : key y ≠ key e := fun h => he h.symm
        simp only [List.mem_cons, ih]
        constructor
        · rintro (h | h | ⟨h, hn⟩)
          · exact .inr ⟨.inl h, by rw [h]; exact hy⟩
          · exact .inl h
          · exact .inr ⟨.inr h, hn⟩
        · rintro (h | ⟨h | h, hn⟩)
          · exact .inr (.inl h)
          · exact .inl h
          · exact .inr (.inr ⟨h, hn⟩)

theorem put_rises : ∀ {s : List α} {e : α}, Rises key s → Rises key (putF key s e)
  | [], e, _ => by simp [putF, Rises]
  | y :: r, e, h => by
    have h1 := (List.pairwise_cons.1 h).1
    have h2 := (List.pairwise_cons.1 h).2
    unfold putF
    by_cases hlt : Lin.lt (key e) (key y) = true
    · rw [if_pos hlt]
      exact List.pairwise_cons.2 ⟨fun z hz => by
        rcases List.mem_cons.1 hz with h | h
        · rw [h]; exact hlt
        · exact Lin.tr hlt (h1 z h), h⟩
    · rw [if_neg hlt]
      have hf : Lin.lt (key e) (key y) = false := by simpa using hlt
      by_cases he : key e = key y
      · rw [if_pos he]
        exact List.pairwise_cons.2 ⟨fun z hz => by rw [he]; exact h1 z hz, h2⟩
      · rw [if_neg he]
        refine List.pairwise_cons.2 ⟨fun z hz => ?_, put_rises h2⟩
        rcases (put_mem key h2).1 hz with h | ⟨h, _⟩
        · rw [h]; exact Lin.gt hf he
        · exact h1 z h

theorem snap_rises (l : List α) : Rises key (snapF key l) := by
  have : ∀ (l s : List α), Rises key s → Rises key (l.foldl (putF key) s) := by
    intro l
    induction l with
    | nil => exact fun _ h => h
    | cons x l ih => exact fun s h => ih _ (put_rises key h)
  exact this l [] List.Pairwise.nil

theorem snap_last {l : List α} : ∀ {x : α}, x ∈ snapF key l ↔ lastF key l (key x) = some x := by
  have : ∀ (r : List α) (x : α), x ∈ snapF key r.reverse ↔ lastF key r.reverse (key x) = some x := by
    intro r
    induction r with
    | nil => intro x; simp [snapF, lastF]
    | cons e r ih =>
      intro x
      rw [List.reverse_cons, snap_snoc, last_snoc, put_mem key (snap_rises key _)]
      by_cases h : key e = key x
      · rw [if_pos h]
        constructor
        · rintro (h1 | ⟨_, h2⟩)
          · rw [h1]
          · exact absurd h.symm h2
        · intro h1; injection h1 with h1; exact .inl h1.symm
      · rw [if_neg h, ← ih]
        constructor
        · rintro (h1 | ⟨h1, _⟩)
          · exact absurd (by rw [h1]) h
          · exact h1
        · exact fun h1 => .inr ⟨h1, fun h2 => h h2.symm⟩
  have h := this l.reverse
  simpa using h

theorem rises_ext : ∀ {s t : List α}, Rises key s → Rises key t → (∀ x, x ∈ s ↔ x ∈ t) → s = t
  | [], [], _, _, _ => rfl
  | [], y :: t, _, _, h => absurd ((h y).2 (by simp)) (by simp)
  | x :: s, [], _, _, h => absurd ((h x).1 (by simp)) (by simp)
  | x :: s, y :: t, hs, ht, h => by
    have s1 := (List.pairwise_cons.1 hs).1
    have t1 := (List.pairwise_cons.1 ht).1
    have e : x = y := by
      rcases List.mem_cons.1 ((h x).1 (by simp)) with e | hx
      · exact e
      · rcases List.mem_cons.1 ((h y).2 (by simp)) with e | hy
        · exact e.symm
        · have := Lin.tr (t1 x hx) (s1 y hy)
          rw [Lin.irr] at this; cases this
    subst e
    congr 1
    refine rises_ext (List.pairwise_cons.1 hs).2 (List.pairwise_cons.1 ht).2 (fun z => ?_)
    constructor
    · intro hz
      rcases List.mem_cons.1 ((h z).1 (List.mem_cons_of_mem _ hz)) with e | h'
      · subst e; have := s1 z hz; rw [Lin.irr] at this; cases this
      · exact h'
    · intro hz
      rcases List.mem_cons.1 ((h z).2 (List.mem_cons_of_mem _ hz)) with e | h'
      · subst e; have := t1 z hz; rw [Lin.irr] at this; cases this
      · exact h'

theorem rises_key {s : List α} (h : Rises key s) {x y : α} (hx : x ∈ s) (hy : y ∈ s) (e : key x = key y) : x = y := by
  induction s with
  | nil => cases hx
  | cons z r ih =>
    have h1 := (List.pairwise_cons.1 h).1
    rcases List.mem_cons.1 hx with hx | hx <;> rcases List.mem_cons.1 hy with hy | hy
    · rw [hx, hy]
    · rw [hx] at e; exact absurd e (Lin.ne (h1 y hy))
    · rw [hy] at e; exact absurd e.symm (Lin.ne (h1 x hx))
    · exact ih (List.pairwise_cons.1 h).2 hx hy

theorem rises_last {s : List α} (h : Rises key s) {x : α} (hx : x ∈ s) : lastF key s (key x) = some x := by
  obtain ⟨y, hy⟩ := last_of_mem key hx
  rw [hy, rises_key key h (last_mem key hy) hx (last_key key hy)]

theorem snap_of_rises {s : List α} (h : Rises key s) : snapF key s = s := by
  refine rises_ext key (snap_rises key s) h (fun x => ?_)
  rw [snap_last]
  constructor
  · exact fun h' => last_mem key h'
  · exact fun h' => rises_last key h h'
theorem snap_snap (l : List α) : snapF key (snapF key l) = snapF key l := snap_of_rises key (snap_rises key l)

theorem put_len (s : List α) (e : α) : (putF key s e).length ≤ s.length + 1 := by
  induction s with
  | nil => simp [putF]
  | cons x r ih =>
    unfold putF
    split
    · simp
    · split
      · simp
      · simpa using ih
theorem snap_len (l : List α) : (snapF key l).length ≤ l.length := by
  have : ∀ (l s : List α), (l.foldl (putF key) s).length ≤ s.length + l.length := by
    intro l
    induction l with
    | nil => intro s; simp
    | cons x l ih =>
      intro s
      have h1 := ih (putF key s x)
      have h2 := put_len key s x
      rw [List.foldl_cons, List.length_cons]
      omega
  have h := this l []
  rw [List.length_nil, Nat.zero_add] at h
  exact h

def Found (s : List α) (k : κ) (n : Nat) (f : Bool) : Prop :=
  n ≤ s.length ∧ (∀ i (h : i < s.length), i < n → Lin.lt (key s[i]) k = true) ∧ (∀ i (h : i < s.length), n ≤ i → Lin.lt (key s[i]) k = false) ∧ (f = true ↔ ∃ h : n < s.length, key s[n] = k)

theorem found_set : ∀ {s : List α} {e : α} {n : Nat}, Found key s (key e) n true → n < s.length ∧ s.set n e = putF key s e
  | [], e, n, ⟨_, _, _, h⟩ => by obtain ⟨h, _⟩ := h.1 rfl; simp at h
  | x :: r, e, 0, ⟨_, _, h3, h⟩ => by
    obtain ⟨_, h⟩ := h.1 rfl
    refine ⟨by simp, ?_⟩
    simp only [List.getElem_cons_zero] at h
    unfold putF
    rw [if_neg (by rw [h, Lin.irr]; decide), if_pos h.symm]
    rfl
  | x :: r, e, n + 1, ⟨h1, h2, h3, h⟩ => by
    have hx := h2 0 (by simp) (by omega)
    simp only [List.getElem_cons_zero] at hx
    obtain ⟨h4, h5⟩ := h.1 rfl
    obtain ⟨g1, g2⟩ := found_set (s := r) (e := e) (n := n) ⟨by simpa using h1, fun i hi hin => by have := h2 (i + 1) (by simpa using hi) (by omega); simpa using this,
      fun i hi hin => by have := h3 (i + 1) (by simpa using hi) (by omega); simpa using this, by simpa using ⟨by simpa using h4, h5⟩⟩
    refine ⟨by simpa using g1, ?_⟩
    unfold putF
    rw [if_neg (by rw [Lin.asym hx]; decide), if_neg (fun h => Lin.ne hx h.symm), List.set_cons_succ, g2]

theorem found_ins : ∀ {s : List α} {e : α} {n : Nat}, Found key s (key e) n false → n ≤ s.length ∧ s.take n ++ e :: s.drop n = putF key s e
  | [], e, n, ⟨h, _⟩ => by
    have : n = 0 := by simpa using h
    subst this
    exact ⟨by simp, by simp [putF]⟩
  | x :: r, e, 0, ⟨_, _, h3, h⟩ => by
    refine ⟨by simp, ?_⟩
    have h4 := h3 0 (by simp) (by omega)
    simp only [List.getElem_cons_zero] at h4
    have h5 : key x ≠ key e := fun h6 => by
      have := h.2 ⟨by simp, h6⟩
      cases this
    unfold putF
    rw [if_pos (Lin.gt h4 h5)]
    simp
  | x :: r, e, n + 1, ⟨h1, h2, h3, h⟩ => by
    have hx := h2 0 (by simp) (by omega)
    simp only [List.getElem_cons_zero] at hx
    obtain ⟨g1, g2⟩ := found_ins (s := r) (e := e) (n := n) ⟨by simpa using h1, fun i hi hin => by have := h2 (i + 1) (by simpa using hi) (by omega); simpa using this,
      fun i hi hin => by have := h3 (i + 1) (by simpa using hi) (by omega); simpa using this, by
        constructor
        · intro h; cases h
        · rintro ⟨h4, h5⟩
          exact h.2 ⟨by simpa using h4, by simpa using h5⟩⟩
    refine ⟨by simpa using g1, ?_⟩
    unfold putF
    rw [if_neg (by rw [Lin.asym hx]; decide), if_neg (fun h => Lin.ne hx h.symm), ← g2]
    simp

def aheadB (after : Option κ) (k : κ) : Bool := match after with | none => true | some a => Lin.lt a k
def minStep (after m : Option κ) (k : κ) : Option κ :=
  if aheadB after k = true then (match m with | none => some k | some b => if Lin.lt k b = true then some k else some b) else m
def minF (l : List α) (after : Option κ) : Option κ := l.foldl (fun m e => minStep after m (key e)) none
theorem min_snoc (l : List α) (e : α) (after : Option κ) : minF key (l ++ [e]) after = minStep after (minF key l after) (key e) := by simp [minF]

theorem min_is (l : List α) (after : Option κ) : match minF key l after with
    | none => ∀ e ∈ l, aheadB after (key e) = false
    | some b => aheadB after b = true ∧ (∃ e ∈ l, key e = b) ∧ ∀ e ∈ l, aheadB after (key e) = true → Lin.lt (key e) b = false := by
  have : ∀ r : List α, match minF key r.reverse after with
    | none => ∀ e ∈ r, aheadB after (key e) = false
    | some b => aheadB after b = true ∧ (∃ e ∈ r, key e = b) ∧ ∀ e ∈ r, aheadB after (key e) = true → Lin.lt (key e) b = false := by
    intro r
    induction r with
    | nil => simp [minF]
    | cons e r ih =>
      rw [List.reverse_cons, min_snoc]
      unfold minStep
      cases hm : minF key r.reverse after with
      | none =>
        rw [hm] at ih
        simp only at ih ⊢
        by_cases ha : aheadB after (key e) = true
        · rw [if_pos ha]
          refine ⟨ha, ⟨e, by simp, rfl⟩, fun x hx hax => ?_⟩
          rcases List.mem_cons.1 hx with h | h
          · rw [h, Lin.irr]
          · rw [ih x h] at hax; cases hax
        · rw [if_neg ha]
          intro x hx
          rcases List.mem_cons.1 hx with h | h
          · rw [h]; simpa using ha
          · exact ih x h
      | some b =>
        rw [hm] at ih
        simp only at ih ⊢
        obtain ⟨h1, ⟨y, h2, h3⟩, h4⟩ := ih
        by_cases ha : aheadB after (key e) = true
        · rw [if_pos ha]
          by_cases hlt : Lin.lt (key e) b = true
          · rw [if_pos hlt]
            refine ⟨ha, ⟨e, by simp, rfl⟩, fun x hx hax => ?_⟩
            rcases List.mem_cons.1 hx with h | h
            · rw [h, Lin.irr]
            · cases h5 : Lin.lt (key x) (key e) with
              | false => rfl
              | true => have := h4 x h hax; rw [Lin.tr h5 hlt] at this; cases this
          · rw [if_neg hlt]
            refine ⟨h1, ⟨y, by simp [h2], h3⟩, fun x hx hax => ?_⟩
            rcases List.mem_cons.1 hx with h | h
            · rw [h]; simpa using hlt
            · exact h4 x h hax
        · rw [if_neg ha]
          refine ⟨h1, ⟨y, by simp [h2], h3⟩, fun x hx hax => ?_⟩
          rcases List.mem_cons.1 hx with h | h
          · rw [h] at hax; exact absurd hax ha
          · exact h4 x h hax
  have h := this l.reverse
  simpa using h

theorem min_next (l : List α) (k : Nat) (hk : k ≤ (snapF key l).length) : minF key l (((snapF key l).take k).getLast?.map key) = ((snapF key l)[k]?).map key := by
  have hr := snap_rises key l
  have hp := List.pairwise_iff_getElem.1 hr
  have hin : ∀ e ∈ l, ∃ i, ∃ h : i < (snapF key l).length, key (snapF key l)[i] = key e := by
    intro e he
    obtain ⟨x, hx⟩ := last_of_mem key he
    have hkx := last_key key hx
    have hm : x ∈ snapF key l := (snap_last key).2 (by rw [hkx]; exact hx)
    obtain ⟨i, hi, hix⟩ := List.getElem_of_mem hm
    exact ⟨i, hi, by rw [hix, hkx]⟩
  have hout : ∀ i (h : i < (snapF key l).length), (snapF key l)[i] ∈ l := fun i h => last_mem key ((snap_last key).1 (List.getElem_mem h))
  generalize snapF key l = S at *
  have ha : ∀ i (h : i < S.length), aheadB ((S.take k).getLast?.map key) (key S[i]) = decide (k ≤ i) := by
    intro i hi
    by_cases h0 : k = 0
    · subst h0; simp [aheadB]
    · have e1 : (S.take k).getLast? = some (S[k - 1]'(by omega)) := by
        rw [List.getLast?_eq_getElem?, List.length_take, Nat.min_eq_left hk, List.getElem?_take, if_pos (by omega), List.getElem?_eq_getElem (by omega)]
      rw [e1]
      simp only [Option.map_some, aheadB]
      by_cases hik : k ≤ i
      · rw [hp (k - 1) i (by omega) hi (by omega)]; simp [hik]
      · rw [decide_eq_false hik]
        by_cases he : i = k - 1
        · subst he; exact Lin.irr _
        · exact Lin.asym (hp i (k - 1) hi (by omega) (by omega))
  have hm := min_is key l ((S.take k).getLast?.map key)
  cases hmin : minF key l ((S.take k).getLast?.map key) with
  | none =>
    rw [hmin] at hm
    simp only at hm
    have : S.length ≤ k := by
      rcases Nat.lt_or_ge k S.length with h | h
      · have h1 := hm _ (hout k h)
        rw [ha k h] at h1
        simp at h1
      · exact h
    rw [List.getElem?_eq_none this]
    rfl
  | some b =>
    rw [hmin] at hm
    simp only at hm
    obtain ⟨h1, ⟨e, h2, h3⟩, h4⟩ := hm
    obtain ⟨i, hi, hie⟩ := hin e h2
    have hki : k ≤ i := by
      have := ha i hi
      rw [hie, h3, h1] at this
      simpa using this.symm
    have hkl : k < S.length := by omega
    have h5 := h4 _ (hout k hkl) (by rw [ha k hkl]; simp)
    rw [List.getElem?_eq_getElem hkl, Option.map_some]
    congr 1
    rcases Nat.lt_or_eq_of_le hki with h | h
    · have := hp k i hkl hi h
      rw [hie, h3, h5] at this
      cases this
    · subst h; rw [hie, h3]

def minStepE (after : Option κ) (m : Option α) (e : α) : Option α :=
  if aheadB after (key e) = true then (match m with | none => some e | some b => if Lin.lt (key b) (key e) = true then some b else some e) else m
def minE (l : List α) (after : Option κ) : Option α := l.foldl (minStepE key after) none
theorem minE_snoc (l : List α) (e : α) (after : Option κ) : minE key (l ++ [e]) after = minStepE key after (minE key l after) e := by simp [minE]

theorem minE_is (l : List α) (after : Option κ) : minE key l after = (minF key l after).bind (lastF key l) := by
  have : ∀ r : List α, minE key r.reverse after = (minF key r.reverse after).bind (lastF key r.reverse) := by
    intro r
    induction r with
    | nil => rfl
    | cons e r ih =>
      rw [List.reverse_cons, minE_snoc, min_snoc, ih]
      have hm := min_is key r.reverse after
      unfold minStepE minStep
      cases hmf : minF key r.reverse after with
      | none =>
        rw [hmf] at hm
        by_cases ha : aheadB after (key e) = true
        · rw [if_pos ha, if_pos ha]
          simp [last_snoc]
        · rw [if_neg ha, if_neg ha]
          rfl
      | some b =>
        rw [hmf] at hm
        simp only at hm
        obtain ⟨h1, ⟨y, h2, h3⟩, h4⟩ := hm
        obtain ⟨x, hx⟩ := last_of_mem key h2
        rw [h3] at hx
        have hkx := last_key key hx
        simp only [Option.bind_some, hx, hkx]
        by_cases ha : aheadB after (key e) = true
        · rw [if_pos ha, if_pos ha]
          by_cases hlt : Lin.lt (key e) b = true
          · rw [if_pos hlt, if_neg (by rw [Lin.asym hlt]; decide)]
            simp [last_snoc]
          · rw [if_neg hlt]
            have hf : Lin.lt (key e) b = false := by simpa using hlt
            by_cases he : key e = b
            · rw [if_neg (by rw [he, Lin.irr]; decide)]
              simp [last_snoc, he]
            · rw [if_pos (Lin.gt hf he)]
              simp [last_snoc, he, hx]
        · rw [if_neg ha, if_neg ha]
          have he : key e ≠ b := fun h => ha (by rw [h]; exact h1)
          simp [last_snoc, he, hx]
  have h := this l.reverse
  simpa using h

theorem minE_next (l : List α) (k : Nat) (hk : k ≤ (snapF key l).length) : minE key l (((snapF key l).take k).getLast?.map key) = (snapF key l)[k]? := by
  rw [minE_is, min_next key l k hk]
  cases h : (snapF key l)[k]? with
  | none => rfl
  | some x =>
    simp only [Option.map_some, Option.bind_some]
    exact (snap_last key).1 (List.mem_of_getElem? h)

end
end Go.Proofs.YtipdgobplfkipaaGreatDoor
