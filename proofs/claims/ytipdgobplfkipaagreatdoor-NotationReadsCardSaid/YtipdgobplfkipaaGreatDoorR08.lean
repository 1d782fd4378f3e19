/- Layer 8, plain: a text cut at a byte. How texts begin. Digits of numbers, beginnings of texts: what the library gives. Layer 2: what the program says of texts. Layer 2: signs, bytes of a text, digits' values. Layer 8: the program's reader: a word; a text cut at a byte; a text between quotes. Layer 8: the document's cut. From the form's reading of plain arguments to what they are. -/
import Derived.Test.YtipdgobplfkipaaGreatDoorR07
import Derived.Lib.Bytealg
import Derived.Test.YtipdgobplfkipaaGreatDoorShelf
import Derived.Test.YtipdgobplfkipaaGreatDoorR06
import Derived.Lib.AppendIntMem
import Derived.Lib.LaidTab
import Derived.LaidLaws
import Derived.Test.YtipdgobplfkipaaGreatDoorR04
set_option linter.all false
namespace Go.Proofs.YtipdgobplfkipaaGreatDoor
open Go

abbrev notB (c : UInt8) : UInt8 → Bool := fun b => !decide (b.toNat = c.toNat)
theorem drop_cons {s : ByteArray} {i : Nat} (hi : i < s.size) : s.data.toList.drop i = s[i] :: s.data.toList.drop (i + 1) := by
  have hl : i < s.data.toList.length := by simpa using hi
  rw [List.drop_eq_getElem_cons hl]
  congr 1
theorem idx_scan (c : UInt8) (s : ByteArray) : ∀ (n i : Nat), s.size - i ≤ n → i ≤ s.size → Lib.indexByte (s.data.toList.drop i) c = if scan (notB c) s i < s.size then ((scan (notB c) s i : Nat) : Int) - i else -1
  | n, i, hn, hi => by
    by_cases hl : i < s.size
    · rw [drop_cons hl, Lib.indexByte]
      by_cases hc : s[i].toNat = c.toNat
      · have e : s[i] = c := UInt8.toNat_inj.1 hc
        rw [scan_no hl (by simp [notB, hc]), if_pos (by rw [e]; exact beq_self_eq_true c), if_pos hl]; omega
      · have e : (s[i] == c) = false := by
          cases h : (s[i] == c) with
          | false => rfl
          | true => exact absurd (by rw [eq_of_beq h]) hc
        match n, hn with
        | 0, hn => omega
        | n + 1, hn =>
          have ih := idx_scan c s n (i + 1) (by omega) (by omega)
          rw [e, if_neg (by decide), scan_yes hl (by simp [notB, hc]), ih]
          have hge := scan_ge (notB c) s _ (i + 1) (Nat.le_refl _)
          by_cases hs : scan (notB c) s (i + 1) < s.size
          · rw [if_pos hs, if_pos hs, if_neg (by simp; omega)]; omega
          · rw [if_neg hs, if_neg hs, if_pos (by decide)]
    · rw [scan_end hl, if_neg hl, List.drop_eq_nil_of_le (by simp; omega)]; rfl
def cutR (c : UInt8) (s : ByteArray) : ByteArray × ByteArray × Bool :=
  if scan (notB c) s 0 < s.size then (s.extract 0 (scan (notB c) s 0), s.extract (scan (notB c) s 0 + 1) s.size, true) else (s, ⟨#[]⟩, false)
theorem cutR_eq (w : ByteArray) : cutE w = if (cutR 61 w).2.2 = true then some ((cutR 61 w).1, (cutR 61 w).2.1) else none := by
  unfold cutE cutR
  show (if scan (notB 61) w 0 < w.size then _ else _) = _
  by_cases h : scan (notB 61) w 0 < w.size
  · rw [if_pos h, if_pos h]; rfl
  · rw [if_neg h, if_neg h]; rfl
theorem cutR_nm (w : ByteArray) : nmE w = (cutR 61 w).1 := by
  unfold nmE
  rw [cutR_eq]
  unfold cutR
  by_cases h : scan (notB 61) w 0 < w.size
  · rw [if_pos h]; rfl
  · rw [if_neg h]; rfl
theorem cut_le (c : UInt8) (s : ByteArray) : (cutR c s).1.size ≤ s.size ∧ (cutR c s).2.1.size ≤ s.size := by
  unfold cutR
  split
  · simp only [ByteArray.size_extract]; omega
  · exact ⟨Nat.le_refl _, by show (0 : Nat) ≤ _; omega⟩
theorem ext_get {s : ByteArray} {k i : Nat} (h : i < (s.extract k s.size).size) : (s.extract k s.size)[i] = s[k + i]'(by rw [ByteArray.size_extract] at h; omega) := by
  rw [ByteArray.getElem_extract]
theorem scan_ext (p : UInt8 → Bool) (s : ByteArray) (k : Nat) (hk : k ≤ s.size) : ∀ (n i : Nat), s.size - k - i ≤ n → scan p (s.extract k s.size) i + k = scan p s (k + i)
  | n, i, hn => by
    have hz : (s.extract k s.size).size = s.size - k := by rw [ByteArray.size_extract]; omega
    by_cases hl : k + i < s.size
    · have hl' : i < (s.extract k s.size).size := by omega
      by_cases hp : p s[k + i] = true
      · match n, hn with
        | 0, hn => omega
        | n + 1, hn =>
          rw [scan_yes hl hp, scan_yes hl' (by rw [ext_get hl']; exact hp), scan_ext p s k hk n (i + 1) (by omega)]; rfl
      · rw [scan_no hl hp, scan_no hl' (by rw [ext_get hl']; exact hp)]; omega
    · rw [scan_end hl, scan_end (by omega)]; omega
theorem ext_ext (s : ByteArray) (k m : Nat) (hk : k + m ≤ s.size) : (s.extract k s.size).extract 0 m = s.extract k (k + m) := by
  rw [ByteArray.extract_extract]
  congr 1 <;> omega
theorem cut_quote (s : ByteArray) (k : Nat) (hk : k ≤ s.size) : (cutR 39 (s.extract k s.size)).2.2 = decide (scan nqB s k < s.size) ∧ (scan nqB s k < s.size → (cutR 39 (s.extract k s.size)).1 = s.extract k (scan nqB s k)) := by
  have hz : (s.extract k s.size).size = s.size - k := by rw [ByteArray.size_extract]; omega
  have h0 := scan_ext nqB s k hk _ 0 (Nat.le_refl _)
  have h1 : scan (notB 39) (s.extract k s.size) 0 = scan nqB s k - k := by
    show scan nqB (s.extract k s.size) 0 = _
    rw [Nat.add_zero] at h0; omega
  have hge := scan_ge nqB s _ k (Nat.le_refl _)
  unfold cutR
  rw [h1, hz]
  by_cases h : scan nqB s k < s.size
  · rw [if_pos (by omega), decide_eq_true h]
    refine ⟨rfl, fun _ => ?_⟩
    show (s.extract k s.size).extract 0 (scan nqB s k - k) = _
    rw [ext_ext s k _ (by omega)]
    congr 1; omega
  · rw [if_neg (by omega), decide_eq_false h]
    exact ⟨rfl, fun h' => absurd h' h⟩
end Go.Proofs.YtipdgobplfkipaaGreatDoor
namespace Go.Proofs.YtipdgobplfkipaaGreatDoor
open Go.RowKit
set_option maxRecDepth 100000
attribute [local irreducible] Go.Code.wpIn Go.wpListIn Go.Calls Gives Go.Exit.then Go.Exit.inBlock Done ObxE

theorem prefix_any (s p : ByteArray) (w0 : World) : Calls Tryz.prog 130 #[.string s, .string p] w0 (Ret fun v w => v = .bool (decide (p.size ≤ s.size ∧ s.extract 0 p.size = p)) ∧ St w0 [] w) := by
  refine enter Tryz.func130 rfl Tryz.ntmps130 rfl (fun a hk => ?_); have hS := St.refl w0
  by_cases h : p.size ≤ s.size
  · (repeat' (first | (show wpListIn _ _ _ _ _ (_ :: _) _ _; first | (refine wx1 ?_; clear hk a; intro a hk) | (refine wx2 ?_ ?_ <;> (intro hp; clear hk a; intro a hk)) | (refine wx3 ?_; clear hk hS a; intro w b hS a hk) | (refine wx4 ?_; clear hk hS a; intro w hS a hk) | (refine wx5 ?_; clear hk hS a; intro w v hS a hk) | fail) | refine wx0 ?_ | (refine s_end hk ?_; clear hk a; intro a hk) | fail))
    all_goals first
      | exact done1 hk (h := ⟨by rw [decide_eq_true ⟨h, by simpa using (by assumption)⟩], hS.nil⟩)
      | exact done1 hk (h := ⟨by rw [decide_eq_false (fun e => absurd e.2 (by simpa using (by assumption)))], hS.nil⟩)
  · (repeat' (first | (show wpListIn _ _ _ _ _ (_ :: _) _ _; first | (refine wx1 ?_; clear hk a; intro a hk) | (refine wx2 ?_ ?_ <;> (intro hp; clear hk a; intro a hk)) | (refine wx3 ?_; clear hk hS a; intro w b hS a hk) | (refine wx4 ?_; clear hk hS a; intro w hS a hk) | (refine wx5 ?_; clear hk hS a; intro w v hS a hk) | fail) | refine wx0 ?_ | (refine s_end hk ?_; clear hk a; intro a hk) | fail))
    exact done1 hk (h := ⟨by rw [decide_eq_false (fun e => h e.1)], hS.nil⟩)
end Go.Proofs.YtipdgobplfkipaaGreatDoor
namespace Go.Proofs.YtipdgobplfkipaaGreatDoor
open Go.RowKit
set_option maxRecDepth 100000
attribute [local irreducible] Go.Code.wpIn Go.wpListIn Go.Calls Gives Go.Exit.then Go.Exit.inBlock Done ObxE

abbrev TabW (w : World) : Prop := Lib.TabIs Tryz.prog w "internal/strconv.uint64pow10" .u64 Lib.pow10Tab
theorem TabW.mono {w w' : World} (h : TabW w) (hb : Below w.heap.size w w') : TabW w' := Lib.tabBelow_of_tabIs h w' hb
def itoS (n : Int) : ByteArray := ⟨(Lib.itoa n).toArray⟩
theorem ito_list (n : Int) : (itoS n).data.toList = Lib.itoa n := by simp [itoS]
theorem itoa_any (n : Int) (h0 : -9223372036854775808 ≤ n) (h1 : n ≤ 9223372036854775807) (w0 : World) (ht : TabW w0) :
    Calls Tryz.prog 45 #[.int .i64 n] w0 (Ret fun v w => v = .string (itoS n) ∧ St w0 [] w) :=
  Calls.mono (Tryz.strconv_Itoa n h0 h1 w0 ht) (fun _ w' ⟨he, k, os, hw⟩ => ⟨_, he, rfl, by
    subst hw
    exact (St.refl w0).new (As := []) (Lib.below_grow _ w0 (Nat.le_refl _) k os) ⟨fun _ => False, fun _ h => h.elim, trivial⟩⟩)
theorem ito_iff {n : Int} {s : ByteArray} : itoS n = s ↔ Lib.itoa n = s.data.toList := by
  constructor
  · intro h; rw [← h, ito_list]
  · intro h
    unfold itoS
    rw [h]
theorem laid_tail {P : Program} {W : World} {x : String × DataW Unit} {rest : List (String × DataW Unit)} (h : laidMet P (x :: rest) W) : laidMet P rest W := by
  obtain ⟨ps, ⟨g, t, cs, fuel, p, q, h1, h2, h3, h4, hq, he⟩, hn, h6⟩ := h
  subst he
  exact ⟨q, hq, (List.nodup_append.1 hn).2.1, fun b off hm => h6 b off (List.mem_append_right _ hm)⟩
end Go.Proofs.YtipdgobplfkipaaGreatDoor
namespace Go.Proofs.YtipdgobplfkipaaGreatDoor
open Go.RowKit
set_option maxRecDepth 100000
attribute [local irreducible] Go.Code.wpIn Go.wpListIn Go.Calls Gives Go.Exit.then Go.Exit.inBlock Done ObxE

theorem letter_any (b : UInt8) (w0 : World) : Calls Tryz.prog 101 #[.int .u8 (b.toNat : Nat)] w0 (Ret fun v w => v = .bool (letB b) ∧ St w0 [] w) := by
  refine enter Tryz.func101 rfl Tryz.ntmps101 rfl (fun a hk => ?_); have hS := St.refl w0
  (repeat' (first | (show wpListIn _ _ _ _ _ (_ :: _) _ _; first | (refine wx1 ?_; clear hk a; intro a hk) | (refine wx2 ?_ ?_ <;> (intro hp; clear hk a; intro a hk)) | (refine wx3 ?_; clear hk hS a; intro w b hS a hk) | (refine wx4 ?_; clear hk hS a; intro w hS a hk) | (refine wx5 ?_; clear hk hS a; intro w v hS a hk) | fail) | refine wx0 ?_ | (refine s_end hk ?_; clear hk a; intro a hk) | fail))
  all_goals exact done1 hk (h := ⟨by unfold letB; first | rw [decide_eq_true (by omega)] | rw [decide_eq_false (by omega)], hS.nil⟩)
theorem digit_any (b : UInt8) (w0 : World) : Calls Tryz.prog 134 #[.int .u8 (b.toNat : Nat)] w0 (Ret fun v w => v = .bool (digB b) ∧ St w0 [] w) := by
  refine enter Tryz.func134 rfl Tryz.ntmps134 rfl (fun a hk => ?_); have hS := St.refl w0
  (repeat' (first | (show wpListIn _ _ _ _ _ (_ :: _) _ _; first | (refine wx1 ?_; clear hk a; intro a hk) | (refine wx2 ?_ ?_ <;> (intro hp; clear hk a; intro a hk)) | (refine wx3 ?_; clear hk hS a; intro w b hS a hk) | (refine wx4 ?_; clear hk hS a; intro w hS a hk) | (refine wx5 ?_; clear hk hS a; intro w v hS a hk) | fail) | refine wx0 ?_ | (refine s_end hk ?_; clear hk a; intro a hk) | fail))
  all_goals exact done1 hk (h := ⟨by unfold digB; first | rw [decide_eq_true (by omega)] | rw [decide_eq_false (by omega)], hS.nil⟩)
theorem visible_any (b : UInt8) (w0 : World) : Calls Tryz.prog 132 #[.int .u8 (b.toNat : Nat)] w0 (Ret fun v w => v = .bool (visB b) ∧ St w0 [] w) := by
  refine enter Tryz.func132 rfl Tryz.ntmps132 rfl (fun a hk => ?_); have hS := St.refl w0
  (repeat' (first | (show wpListIn _ _ _ _ _ (_ :: _) _ _; first | (refine wx1 ?_; clear hk a; intro a hk) | (refine wx2 ?_ ?_ <;> (intro hp; clear hk a; intro a hk)) | (refine wx3 ?_; clear hk hS a; intro w b hS a hk) | (refine wx4 ?_; clear hk hS a; intro w hS a hk) | (refine wx5 ?_; clear hk hS a; intro w v hS a hk) | fail) | refine wx0 ?_ | (refine s_end hk ?_; clear hk a; intro a hk) | fail))
  all_goals exact done1 hk (h := ⟨by unfold visB; first | rw [decide_eq_true (by omega)] | rw [decide_eq_false (by omega)], hS.nil⟩)
theorem plain_any (b : UInt8) (w0 : World) : Calls Tryz.prog 127 #[.int .u8 (b.toNat : Nat)] w0 (Ret fun v w => v = .bool (plaB b) ∧ St w0 [] w) := by
  refine enter Tryz.func127 rfl Tryz.ntmps127 rfl (fun a hk => ?_); have hS := St.refl w0
  (repeat' (first | (show wpListIn _ _ _ _ _ (_ :: _) _ _; first | (refine wx1 ?_; clear hk a; intro a hk) | (refine wx2 ?_ ?_ <;> (intro hp; clear hk a; intro a hk)) | (refine wx3 ?_; clear hk hS a; intro w b hS a hk) | (refine wx4 ?_; clear hk hS a; intro w hS a hk) | (refine wx5 ?_; clear hk hS a; intro w v hS a hk) | fail) | refine wx0 ?_ | (refine s_end hk ?_; clear hk a; intro a hk) | fail))
  refine sg hk (g_callO hk (hf := by kernel_rfl) (hc := letter_any b _) (h := ?_)); clear hk a; rintro _ w ⟨rfl, hS1⟩ a hk; replace hS := hS.call0 hS1; clear hS1
  cases h : letB b with
  | true =>
    rw [h] at hk
    unfold letB at h
    simp only [decide_eq_true_eq] at h
    (repeat' (first | (show wpListIn _ _ _ _ _ (_ :: _) _ _; first | (refine wx1 ?_; clear hk a; intro a hk) | (refine wx2 ?_ ?_ <;> (intro hp; clear hk a; intro a hk)) | (refine wx3 ?_; clear hk hS a; intro w b hS a hk) | (refine wx4 ?_; clear hk hS a; intro w hS a hk) | (refine wx5 ?_; clear hk hS a; intro w v hS a hk) | fail) | refine wx0 ?_ | (refine s_end hk ?_; clear hk a; intro a hk) | fail))
    exact done1 hk (h := ⟨by unfold plaB; rw [decide_eq_true (by omega)], hS.nil⟩)
  | false =>
    rw [h] at hk
    unfold letB at h
    simp only [decide_eq_false_iff_not] at h
    (repeat' (first | (show wpListIn _ _ _ _ _ (_ :: _) _ _; first | (refine wx1 ?_; clear hk a; intro a hk) | (refine wx2 ?_ ?_ <;> (intro hp; clear hk a; intro a hk)) | (refine wx3 ?_; clear hk hS a; intro w b hS a hk) | (refine wx4 ?_; clear hk hS a; intro w hS a hk) | (refine wx5 ?_; clear hk hS a; intro w v hS a hk) | fail) | refine wx0 ?_ | (refine s_end hk ?_; clear hk a; intro a hk) | fail))
    refine sg hk (g_callO hk (hf := by kernel_rfl) (hc := digit_any b _) (h := ?_)); clear hk a; rintro _ w ⟨rfl, hS1⟩ a hk; replace hS := hS.call0 hS1; clear hS1
    cases h2 : digB b with
    | true =>
      rw [h2] at hk
      unfold digB at h2
      simp only [decide_eq_true_eq] at h2
      (repeat' (first | (show wpListIn _ _ _ _ _ (_ :: _) _ _; first | (refine wx1 ?_; clear hk a; intro a hk) | (refine wx2 ?_ ?_ <;> (intro hp; clear hk a; intro a hk)) | (refine wx3 ?_; clear hk hS a; intro w b hS a hk) | (refine wx4 ?_; clear hk hS a; intro w hS a hk) | (refine wx5 ?_; clear hk hS a; intro w v hS a hk) | fail) | refine wx0 ?_ | (refine s_end hk ?_; clear hk a; intro a hk) | fail))
      exact done1 hk (h := ⟨by unfold plaB; rw [decide_eq_true (by omega)], hS.nil⟩)
    | false =>
      rw [h2] at hk
      unfold digB at h2
      simp only [decide_eq_false_iff_not] at h2
      (repeat' (first | (show wpListIn _ _ _ _ _ (_ :: _) _ _; first | (refine wx1 ?_; clear hk a; intro a hk) | (refine wx2 ?_ ?_ <;> (intro hp; clear hk a; intro a hk)) | (refine wx3 ?_; clear hk hS a; intro w b hS a hk) | (refine wx4 ?_; clear hk hS a; intro w hS a hk) | (refine wx5 ?_; clear hk hS a; intro w v hS a hk) | fail) | refine wx0 ?_ | (refine s_end hk ?_; clear hk a; intro a hk) | fail))
      all_goals exact done1 hk (h := ⟨by unfold plaB; first | rw [decide_eq_true (by omega)] | rw [decide_eq_false (by omega)], hS.nil⟩)
theorem all_any (fid : FuncId) (p : UInt8 → Bool) (hf : callable Tryz.prog fid = true) (hp : ∀ b w0, Calls Tryz.prog fid #[.int .u8 (b.toNat : Nat)] w0 (Ret fun v w => v = .bool (p b) ∧ St w0 [] w)) (s : ByteArray) (hs : s.size ≤ 1000000) (w0 : World) :
    Calls Tryz.prog 125 #[.string s, .func (.func fid) #[] #[]] w0 (Ret fun v w => v = .bool (s.data.toList.all p) ∧ St w0 [] w) := by
  refine enter Tryz.func125 rfl Tryz.ntmps125 rfl (fun a hk => ?_); have hS := St.refl w0
  (repeat' (first | (show wpListIn _ _ _ _ _ (_ :: _) _ _; first | (refine wx1 ?_; clear hk a; intro a hk) | (refine wx2 ?_ ?_ <;> (intro hp; clear hk a; intro a hk)) | (refine wx3 ?_; clear hk hS a; intro w b hS a hk) | (refine wx4 ?_; clear hk hS a; intro w hS a hk) | (refine wx5 ?_; clear hk hS a; intro w v hS a hk) | fail) | refine wx0 ?_ | (refine s_end hk ?_; clear hk a; intro a hk) | fail))
  replace hk := Kn.kp [0, 1, 7, 8] hk
  refine wp_for s.size (fun i _ => [(8, .int .i64 (i : Int))]) (fun _ _ => []) (fun i _ => (s.data.toList.take i).all p = true) () hk (by repeat (first | exact trivial | refine ⟨rfl, ?_⟩)) hS.sb (by simp) ?_
  clear hk hS a
  rintro i - a w hi hk hS hF
  by_cases hil : i < s.size
  · have htk := all_take hil p
    (repeat' (first | (show wpListIn _ _ _ _ _ (_ :: _) _ _; first | (refine wx1 ?_; clear hk a; intro a hk) | (refine wx2 ?_ ?_ <;> (intro hp; clear hk a; intro a hk)) | (refine wx3 ?_; clear hk hS a; intro w b hS a hk) | (refine wx4 ?_; clear hk hS a; intro w hS a hk) | (refine wx5 ?_; clear hk hS a; intro w v hS a hk) | fail) | refine wx0 ?_ | (refine s_end hk ?_; clear hk a; intro a hk) | fail))
    refine sg hk (g_callvO hk (hf := hf) (hc := hp s[i] _) (h := ?_)); clear hk a; rintro _ w ⟨rfl, hS1⟩ a hk; replace hS := hS.call0 hS1; clear hS1
    cases hb : p s[i] with
    | true =>
      rw [hb] at hk
      (repeat' (first | (show wpListIn _ _ _ _ _ (_ :: _) _ _; first | (refine wx1 ?_; clear hk a; intro a hk) | (refine wx2 ?_ ?_ <;> (intro hp; clear hk a; intro a hk)) | (refine wx3 ?_; clear hk hS a; intro w b hS a hk) | (refine wx4 ?_; clear hk hS a; intro w hS a hk) | (refine wx5 ?_; clear hk hS a; intro w v hS a hk) | fail) | refine wx0 ?_ | (refine s_end hk ?_; clear hk a; intro a hk) | fail))
      exact ⟨hil, (), hk.sd, hS.sb, by rw [htk, hF, hb]; rfl⟩
    | false =>
      rw [hb] at hk
      (repeat' (first | (show wpListIn _ _ _ _ _ (_ :: _) _ _; first | (refine wx1 ?_; clear hk a; intro a hk) | (refine wx2 ?_ ?_ <;> (intro hp; clear hk a; intro a hk)) | (refine wx3 ?_; clear hk hS a; intro w b hS a hk) | (refine wx4 ?_; clear hk hS a; intro w hS a hk) | (refine wx5 ?_; clear hk hS a; intro w v hS a hk) | fail) | refine wx0 ?_ | (refine s_end hk ?_; clear hk a; intro a hk) | fail))
      exact done1 hk (h := ⟨by rw [all_no hil hb], hS.nil⟩)
  · have : i = s.size := by omega
    subst this
    rw [all_full] at hF
    (repeat' (first | (show wpListIn _ _ _ _ _ (_ :: _) _ _; first | (refine wx1 ?_; clear hk a; intro a hk) | (refine wx2 ?_ ?_ <;> (intro hp; clear hk a; intro a hk)) | (refine wx3 ?_; clear hk hS a; intro w b hS a hk) | (refine wx4 ?_; clear hk hS a; intro w hS a hk) | (refine wx5 ?_; clear hk hS a; intro w v hS a hk) | fail) | refine wx0 ?_ | (refine s_end hk ?_; clear hk a; intro a hk) | fail))
    exact done1 hk (h := ⟨by rw [hF], hS.nil⟩)
theorem key_any (s : ByteArray) (hs : s.size ≤ 1000000) (w0 : World) : Calls Tryz.prog 93 #[.string s] w0 (Ret fun v w => v = .bool (keyS s) ∧ St w0 [] w) := by
  refine enter Tryz.func93 rfl Tryz.ntmps93 rfl (fun a hk => ?_); have hS := St.refl w0
  have he := emp_iff (s := s)
  by_cases h0 : s = ⟨#[]⟩
  · have h1 := he.1 h0
    (repeat' (first | (show wpListIn _ _ _ _ _ (_ :: _) _ _; first | (refine wx1 ?_; clear hk a; intro a hk) | (refine wx2 ?_ ?_ <;> (intro hp; clear hk a; intro a hk)) | (refine wx3 ?_; clear hk hS a; intro w b hS a hk) | (refine wx4 ?_; clear hk hS a; intro w hS a hk) | (refine wx5 ?_; clear hk hS a; intro w v hS a hk) | fail) | refine wx0 ?_ | (refine s_end hk ?_; clear hk a; intro a hk) | fail))
    all_goals first
      | exact done1 hk (h := ⟨by unfold keyS; rw [decide_eq_false (by omega)]; rfl, hS.nil⟩)
      | (exfalso; contradiction)
  · have h1 : s.size ≠ 0 := fun h => h0 (he.2 h)
    by_cases h2 : s.size ≤ 16
    · (repeat' (first | (show wpListIn _ _ _ _ _ (_ :: _) _ _; first | (refine wx1 ?_; clear hk a; intro a hk) | (refine wx2 ?_ ?_ <;> (intro hp; clear hk a; intro a hk)) | (refine wx3 ?_; clear hk hS a; intro w b hS a hk) | (refine wx4 ?_; clear hk hS a; intro w hS a hk) | (refine wx5 ?_; clear hk hS a; intro w v hS a hk) | fail) | refine wx0 ?_ | (refine s_end hk ?_; clear hk a; intro a hk) | fail))
      refine sg hk (g_callO hk (hf := by kernel_rfl) (hc := all_any 127 plaB (by kernel_rfl) plain_any s hs _) (h := ?_)); clear hk a; rintro _ w ⟨rfl, hS1⟩ a hk; replace hS := hS.call0 hS1; clear hS1
      (repeat' (first | (show wpListIn _ _ _ _ _ (_ :: _) _ _; first | (refine wx1 ?_; clear hk a; intro a hk) | (refine wx2 ?_ ?_ <;> (intro hp; clear hk a; intro a hk)) | (refine wx3 ?_; clear hk hS a; intro w b hS a hk) | (refine wx4 ?_; clear hk hS a; intro w hS a hk) | (refine wx5 ?_; clear hk hS a; intro w v hS a hk) | fail) | refine wx0 ?_ | (refine s_end hk ?_; clear hk a; intro a hk) | fail))
      exact done1 hk (h := ⟨by unfold keyS; rw [decide_eq_true (by omega)]; rfl, hS.nil⟩)
    · (repeat' (first | (show wpListIn _ _ _ _ _ (_ :: _) _ _; first | (refine wx1 ?_; clear hk a; intro a hk) | (refine wx2 ?_ ?_ <;> (intro hp; clear hk a; intro a hk)) | (refine wx3 ?_; clear hk hS a; intro w b hS a hk) | (refine wx4 ?_; clear hk hS a; intro w hS a hk) | (refine wx5 ?_; clear hk hS a; intro w v hS a hk) | fail) | refine wx0 ?_ | (refine s_end hk ?_; clear hk a; intro a hk) | fail))
      exact done1 hk (h := ⟨by unfold keyS; rw [decide_eq_false (by omega)]; rfl, hS.nil⟩)
theorem name_any (s : ByteArray) (hs : s.size ≤ 1000000) (w0 : World) : Calls Tryz.prog 75 #[.string s] w0 (Ret fun v w => v = .bool (nameS s) ∧ St w0 [] w) := by
  refine enter Tryz.func75 rfl Tryz.ntmps75 rfl (fun a hk => ?_); have hS := St.refl w0
  (repeat' (first | (show wpListIn _ _ _ _ _ (_ :: _) _ _; first | (refine wx1 ?_; clear hk a; intro a hk) | (refine wx2 ?_ ?_ <;> (intro hp; clear hk a; intro a hk)) | (refine wx3 ?_; clear hk hS a; intro w b hS a hk) | (refine wx4 ?_; clear hk hS a; intro w hS a hk) | (refine wx5 ?_; clear hk hS a; intro w v hS a hk) | fail) | refine wx0 ?_ | (refine s_end hk ?_; clear hk a; intro a hk) | fail))
  refine sg hk (g_callO hk (hf := by kernel_rfl) (hc := key_any s hs _) (h := ?_)); clear hk a; rintro _ w ⟨rfl, hS1⟩ a hk; replace hS := hS.call0 hS1; clear hS1
  cases h : keyS s with
  | false =>
    rw [h] at hk
    (repeat' (first | (show wpListIn _ _ _ _ _ (_ :: _) _ _; first | (refine wx1 ?_; clear hk a; intro a hk) | (refine wx2 ?_ ?_ <;> (intro hp; clear hk a; intro a hk)) | (refine wx3 ?_; clear hk hS a; intro w b hS a hk) | (refine wx4 ?_; clear hk hS a; intro w hS a hk) | (refine wx5 ?_; clear hk hS a; intro w v hS a hk) | fail) | refine wx0 ?_ | (refine s_end hk ?_; clear hk a; intro a hk) | fail))
    exact done1 hk (h := ⟨by unfold nameS; rw [h]; rfl, hS.nil⟩)
  | true =>
    rw [h] at hk
    have h0 : 0 < s.size := by unfold keyS at h; simp at h; omega
    (repeat' (first | (show wpListIn _ _ _ _ _ (_ :: _) _ _; first | (refine wx1 ?_; clear hk a; intro a hk) | (refine wx2 ?_ ?_ <;> (intro hp; clear hk a; intro a hk)) | (refine wx3 ?_; clear hk hS a; intro w b hS a hk) | (refine wx4 ?_; clear hk hS a; intro w hS a hk) | (refine wx5 ?_; clear hk hS a; intro w v hS a hk) | fail) | refine wx0 ?_ | (refine s_end hk ?_; clear hk a; intro a hk) | fail))
    refine sg hk (g_callO hk (hf := by kernel_rfl) (hc := letter_any s[0] _) (h := ?_)); clear hk a; rintro _ w ⟨rfl, hS1⟩ a hk; replace hS := hS.call0 hS1; clear hS1
    (repeat' (first | (show wpListIn _ _ _ _ _ (_ :: _) _ _; first | (refine wx1 ?_; clear hk a; intro a hk) | (refine wx2 ?_ ?_ <;> (intro hp; clear hk a; intro a hk)) | (refine wx3 ?_; clear hk hS a; intro w b hS a hk) | (refine wx4 ?_; clear hk hS a; intro w hS a hk) | (refine wx5 ?_; clear hk hS a; intro w v hS a hk) | fail) | refine wx0 ?_ | (refine s_end hk ?_; clear hk a; intro a hk) | fail))
    exact done1 hk (h := ⟨by unfold nameS; rw [h, head_at h0]; rfl, hS.nil⟩)
theorem value_any (s : ByteArray) (hs : s.size ≤ 1000000) (w0 : World) : Calls Tryz.prog 104 #[.string s] w0 (Ret fun v w => v = .bool (valS s) ∧ St w0 [] w) := by
  refine enter Tryz.func104 rfl Tryz.ntmps104 rfl (fun a hk => ?_); have hS := St.refl w0
  by_cases h2 : s.size ≤ 32
  · (repeat' (first | (show wpListIn _ _ _ _ _ (_ :: _) _ _; first | (refine wx1 ?_; clear hk a; intro a hk) | (refine wx2 ?_ ?_ <;> (intro hp; clear hk a; intro a hk)) | (refine wx3 ?_; clear hk hS a; intro w b hS a hk) | (refine wx4 ?_; clear hk hS a; intro w hS a hk) | (refine wx5 ?_; clear hk hS a; intro w v hS a hk) | fail) | refine wx0 ?_ | (refine s_end hk ?_; clear hk a; intro a hk) | fail))
    refine sg hk (g_callO hk (hf := by kernel_rfl) (hc := all_any 132 visB (by kernel_rfl) visible_any s hs _) (h := ?_)); clear hk a; rintro _ w ⟨rfl, hS1⟩ a hk; replace hS := hS.call0 hS1; clear hS1
    (repeat' (first | (show wpListIn _ _ _ _ _ (_ :: _) _ _; first | (refine wx1 ?_; clear hk a; intro a hk) | (refine wx2 ?_ ?_ <;> (intro hp; clear hk a; intro a hk)) | (refine wx3 ?_; clear hk hS a; intro w b hS a hk) | (refine wx4 ?_; clear hk hS a; intro w hS a hk) | (refine wx5 ?_; clear hk hS a; intro w v hS a hk) | fail) | refine wx0 ?_ | (refine s_end hk ?_; clear hk a; intro a hk) | fail))
    exact done1 hk (h := ⟨by unfold valS; rw [decide_eq_true (by omega)]; rfl, hS.nil⟩)
  · (repeat' (first | (show wpListIn _ _ _ _ _ (_ :: _) _ _; first | (refine wx1 ?_; clear hk a; intro a hk) | (refine wx2 ?_ ?_ <;> (intro hp; clear hk a; intro a hk)) | (refine wx3 ?_; clear hk hS a; intro w b hS a hk) | (refine wx4 ?_; clear hk hS a; intro w hS a hk) | (refine wx5 ?_; clear hk hS a; intro w v hS a hk) | fail) | refine wx0 ?_ | (refine s_end hk ?_; clear hk a; intro a hk) | fail))
    exact done1 hk (h := ⟨by unfold valS; rw [decide_eq_false (by omega)]; rfl, hS.nil⟩)
end Go.Proofs.YtipdgobplfkipaaGreatDoor
namespace Go.Proofs.YtipdgobplfkipaaGreatDoor
open Go.RowKit
set_option maxRecDepth 100000
attribute [local irreducible] Go.Code.wpIn Go.wpListIn Go.Calls Gives Go.Exit.then Go.Exit.inBlock Done ObxE

def prefB (s p : ByteArray) : Bool := decide (p.size ≤ s.size ∧ s.extract 0 p.size = p)
theorem cut36_any (s p : ByteArray) (w0 : World) : Calls Tryz.prog 148 #[.string s, .string p] w0 (Ret fun v w => v = .tuple #[.string (if prefB s p then s.extract p.size s.size else s), .bool (prefB s p)] ∧ St w0 [] w) := by
  refine enter Tryz.func148 rfl Tryz.ntmps148 rfl (fun a hk => ?_); have hS := St.refl w0
  (repeat' (first | (show wpListIn _ _ _ _ _ (_ :: _) _ _; first | (refine wx1 ?_; clear hk a; intro a hk) | (refine wx2 ?_ ?_ <;> (intro hp; clear hk a; intro a hk)) | (refine wx3 ?_; clear hk hS a; intro w b hS a hk) | (refine wx4 ?_; clear hk hS a; intro w hS a hk) | (refine wx5 ?_; clear hk hS a; intro w v hS a hk) | fail) | refine wx0 ?_ | (refine s_end hk ?_; clear hk a; intro a hk) | fail))
  refine sg hk (g_callO hk (hf := by kernel_rfl) (hc := prefix_any s p _) (h := ?_)); clear hk a; rintro _ w ⟨rfl, hS1⟩ a hk; replace hS := hS.call0 hS1; clear hS1
  cases h : prefB s p with
  | false =>
    have h' : decide (p.size ≤ s.size ∧ s.extract 0 p.size = p) = false := h
    rw [h'] at hk
    (repeat' (first | (show wpListIn _ _ _ _ _ (_ :: _) _ _; first | (refine wx1 ?_; clear hk a; intro a hk) | (refine wx2 ?_ ?_ <;> (intro hp; clear hk a; intro a hk)) | (refine wx3 ?_; clear hk hS a; intro w b hS a hk) | (refine wx4 ?_; clear hk hS a; intro w hS a hk) | (refine wx5 ?_; clear hk hS a; intro w v hS a hk) | fail) | refine wx0 ?_ | (refine s_end hk ?_; clear hk a; intro a hk) | fail))
    exact done2 hk (h := ⟨by simp, hS.nil⟩)
  | true =>
    have h' : decide (p.size ≤ s.size ∧ s.extract 0 p.size = p) = true := h
    rw [h'] at hk
    have hp : p.size ≤ s.size := (of_decide_eq_true h').1
    (repeat' (first | (show wpListIn _ _ _ _ _ (_ :: _) _ _; first | (refine wx1 ?_; clear hk a; intro a hk) | (refine wx2 ?_ ?_ <;> (intro hp; clear hk a; intro a hk)) | (refine wx3 ?_; clear hk hS a; intro w b hS a hk) | (refine wx4 ?_; clear hk hS a; intro w hS a hk) | (refine wx5 ?_; clear hk hS a; intro w v hS a hk) | fail) | refine wx0 ?_ | (refine s_end hk ?_; clear hk a; intro a hk) | fail))
    exact done2 hk (h := ⟨by simp, hS.nil⟩)
theorem cutPrefix_any (s p : ByteArray) (w0 : World) : Calls Tryz.prog 133 #[.string s, .string p] w0 (Ret fun v w => v = .tuple #[.string (if prefB s p then s.extract p.size s.size else s), .bool (prefB s p)] ∧ St w0 [] w) := by
  refine enter Tryz.func133 rfl Tryz.ntmps133 rfl (fun a hk => ?_); have hS := St.refl w0
  (repeat' (first | (show wpListIn _ _ _ _ _ (_ :: _) _ _; first | (refine wx1 ?_; clear hk a; intro a hk) | (refine wx2 ?_ ?_ <;> (intro hp; clear hk a; intro a hk)) | (refine wx3 ?_; clear hk hS a; intro w b hS a hk) | (refine wx4 ?_; clear hk hS a; intro w hS a hk) | (refine wx5 ?_; clear hk hS a; intro w v hS a hk) | fail) | refine wx0 ?_ | (refine s_end hk ?_; clear hk a; intro a hk) | fail))
  refine sg hk (g_callO hk (hf := by kernel_rfl) (hc := cut36_any s p _) (h := ?_)); clear hk a; rintro _ w ⟨rfl, hS1⟩ a hk; replace hS := hS.call0 hS1; clear hS1
  (repeat' (first | (show wpListIn _ _ _ _ _ (_ :: _) _ _; first | (refine wx1 ?_; clear hk a; intro a hk) | (refine wx2 ?_ ?_ <;> (intro hp; clear hk a; intro a hk)) | (refine wx3 ?_; clear hk hS a; intro w b hS a hk) | (refine wx4 ?_; clear hk hS a; intro w hS a hk) | (refine wx5 ?_; clear hk hS a; intro w v hS a hk) | fail) | refine wx0 ?_ | (refine s_end hk ?_; clear hk a; intro a hk) | fail))
  exact done2 hk (h := ⟨rfl, hS.nil⟩)

instance encBy : Enc UInt8 := ⟨0, fun x => [.int .u8 (x.toNat : Nat)], fun _ => rfl, fun _ u h => by rw [List.mem_singleton] at h; subst h; rfl⟩
def bysF (s : ByteArray) : List UInt8 := s.data.toList
theorem bys_len (s : ByteArray) : (bysF s).length = s.size := by simp [bysF]
theorem enc_bys : ∀ l : List UInt8, enc l = l.map (fun b => Value.int .u8 (b.toNat : Nat))
  | [] => rfl
  | b :: l => by rw [enc_cons, enc_bys l]; rfl
theorem bys_rd {w : World} {b : Nat} {s : ByteArray} {cap : Nat} {e : TypeId} {fr : Nat × Nat} (h : w.heap[b]? = some (.cells (bytesRow s cap) e fr)) (hc : s.size ≤ cap) (hm : cap ≤ maxLen) : SlT (bysF s) (.slice (some ⟨b, 0, none⟩) s.size cap) w := by
  refine ⟨by rw [enc_len], by rw [bys_len]; omega, .inr ⟨⟨b, 0, none⟩, cap, by rw [bys_len], by rw [bys_len]; exact hc, hm, fun j u hj => ⟨rfl, ?_⟩⟩⟩
  unfold bysF at hj
  rw [enc_bys, List.getElem?_map] at hj
  unfold World.cell?
  simp only [Nat.zero_add]
  rw [h]
  simp only
  have hjs : j < s.data.toList.length := by
    rcases Nat.lt_or_ge j s.data.toList.length with g | g
    · exact g
    · rw [List.getElem?_eq_none g] at hj; cases hj
  rw [List.getElem?_eq_getElem hjs] at hj
  simp only [Option.map_some, Option.some.injEq] at hj
  have hjs' : j < s.data.size := by simpa using hjs
  unfold bytesRow
  rw [Array.getElem?_append_left (by simpa using hjs')]
  simp only [← hj]
  simp
  exact ⟨s.data[j], Array.getElem?_eq_getElem hjs', rfl⟩

section
variable {P : Program} {a : Act} {w w' : World} {w0 : Bs} {n : Nat} {l : List (Nat × Value)} {L : List HP} {df : List Deferred}
  {dst : Option Nat} {R : Value → World → Prop} {ty : TypeId} {pos : String} {af : Array Edge} {g : Option (Nat × Bool)}
theorem g_bytes {x : Operand} {t t' e : TypeId} {s : ByteArray} (hk : Kn df n a l) (hS : St w0 L w) (hs : s.size ≤ maxLen)
    (h : ∀ w' b cap fr, s.size ≤ cap → cap ≤ maxLen → St w0 (obj b (.cells (bytesRow s cap) e fr) :: L) w' → R (.slice (some ⟨b, 0, none⟩) s.size cap) w')
    (ht : P.underlying t = some .string) (hd : elOf P t' = some e) (he : P.underlying e = some (.int .u8)) (hx : ev l x = some (.string s) := by rfl) :
    Gives P ⟨dst, .convert t t' x, ty, pos, af, g⟩ a w R := by
  have hr := run_bytes_of_string (P := P) w t t' e s ht (elOf_und hd) he
  have key := h _ _ _ _ (grownCap_ge w s.size 0 e) (grownCap_le_maxLen w s.size 0 e hs) (hS.drew.newObj (.cells (bytesRow s (grownCap w s.size 0 e)) e ((bytesRow s (grownCap w s.size 0 e)).size, (bytesRow s (grownCap w s.size 0 e)).size + 1)))
  refine givesv (v := .slice (some ⟨w.heap.size, 0, none⟩) s.size (grownCap w s.size 0 e)) ?_ key
  simp [execOp, hk.eval hx, hr]
theorem g_subB {x y : Operand} {t t' : TypeId} {p q : Int} (hk : Kn df n a l) (h : R (.int .u8 (p - q)) w)
    (hx : ev l x = some (.int .u8 p) := by rfl) (hy : ev l y = some (.int .u8 q) := by rfl)
    (hlo : 0 ≤ p - q) (hhi : p - q ≤ 255) :
    Gives P ⟨dst, .binOp .sub t x y t', ty, pos, af, g⟩ a w R :=
  givesv (v := .int .u8 (p - q)) (by
    have e : IntKind.u8.wrap (p - q) = p - q := by
      have : IntKind.u8.wrap (p - q) = (p - q) % 256 := rfl
      rw [this]; omega
    simp [execOp, hk.eval hx, hk.eval hy, eqGuard, binOp_sub, Op.intArith, e]) h
theorem g_negW {x : Operand} {t : TypeId} {p : Int} (hk : Kn df n a l) (h : R (.int .i64 (-p)) w) (hx : ev l x = some (.int .i64 p) := by rfl) (hlo : -9223372036854775807 ≤ p) (hhi : p ≤ 9223372036854775807) :
    Gives P ⟨dst, .unOp .neg t x, ty, pos, af, g⟩ a w R :=
  givesv (v := .int .i64 (-p)) (by
    have e : IntKind.i64.wrap (0 - p) = -p := by rw [IntWalk.i64_in _ ⟨by omega, by omega⟩]; omega
    simp [execOp, hk.eval hx, Op.unary, Op.intArith]
    simpa using e) h
end

theorem ext_list (s : ByteArray) (i j : Nat) : (s.extract i j).data.toList = (s.data.toList.take j).drop i := by
  simp [ByteArray.data_extract, Array.toList_extract, List.drop_take]
theorem pref_sgn (s : ByteArray) : prefB s ⟨#[45]⟩ = sgnL s.data.toList := by
  unfold prefB sgnL
  have e1 : (⟨#[45]⟩ : ByteArray).size = 1 := rfl
  rw [e1]
  have h2 : s.extract 0 1 = ⟨#[45]⟩ ↔ s.data.toList.take 1 = [45] := by
    constructor
    · intro h
      have := congrArg (fun x : ByteArray => x.data.toList) h
      simp only [ext_list, List.drop_zero] at this
      exact this
    · intro h
      have := ext_list s 0 1
      rw [List.drop_zero, h] at this
      cases hx : s.extract 0 1 with
      | mk d => rw [hx] at this; congr 1; exact Array.toList_inj.1 this
  have hsz : s.size = s.data.toList.length := by simp
  cases hl : s.data.toList with
  | nil =>
    rw [hl] at hsz
    simp at hsz
    simp [hsz]
  | cons x r =>
    rw [hl] at h2 hsz
    simp only [List.take_succ_cons, List.take_zero, List.cons.injEq, and_true] at h2
    simp only [List.length_cons] at hsz
    simp only [List.head?_cons, Option.some.injEq]
    by_cases e : x = 45
    · simp [h2.2 e, e, hsz]
    · have : ¬ s.extract 0 1 = ⟨#[45]⟩ := fun h => e (h2.1 h)
      simp [this, e]
def digS (s : ByteArray) : ByteArray := if prefB s ⟨#[45]⟩ then s.extract 1 s.size else s
theorem dig_list (s : ByteArray) : (digS s).data.toList = digL s.data.toList := by
  unfold digS digL
  rw [pref_sgn]
  cases sgnL s.data.toList with
  | true =>
    simp only [if_true]
    rw [ext_list, List.take_of_length_le (by simp), List.drop_one]
  | false => rfl
theorem val_lt : ∀ (n : Nat) (l : List UInt8), l.length = n → l.all digB = true → valL l < 10 ^ n
  | 0, l, hl, _ => by rw [List.eq_nil_of_length_eq_zero hl]; decide
  | n + 1, l, hl, hd => by
    rcases List.eq_nil_or_concat l with rfl | ⟨e, b, rfl⟩
    · simp at hl
    · rw [List.concat_eq_append] at *
      rw [List.all_append] at hd
      simp only [Bool.and_eq_true, List.all_cons, List.all_nil, Bool.and_true, digB, decide_eq_true_eq] at hd
      have ih := val_lt n e (by simp at hl; exact hl) hd.1
      rw [val_snoc, Nat.pow_succ]
      omega
theorem val_small {l : List UInt8} (hl : l.length ≤ 10) (hd : l.all digB = true) : valL l < 10000000000 := by
  have h1 := val_lt _ l rfl hd
  have h2 : 10 ^ l.length ≤ 10 ^ 10 := Nat.pow_le_pow_right (by omega) hl
  exact Nat.lt_of_lt_of_le h1 (Nat.le_trans h2 (by decide))
theorem val_take {s : ByteArray} {i : Nat} (h : i < s.size) : valL (s.data.toList.take (i + 1)) = 10 * valL (s.data.toList.take i) + (s[i].toNat - 48) := by
  rw [List.take_add_one, byte_at h]
  exact val_snoc _ _
theorem dig_at {s : ByteArray} {i : Nat} (h : i < s.size) (hd : s.data.toList.all digB = true) : 48 ≤ s[i].toNat ∧ s[i].toNat ≤ 57 := by
  have := List.all_eq_true.1 hd _ (List.mem_of_getElem? (byte_at h))
  simpa [digB] using this
theorem all_tk {s : ByteArray} {i : Nat} (hd : s.data.toList.all digB = true) : (s.data.toList.take i).all digB = true :=
  List.all_eq_true.2 fun x hx => List.all_eq_true.1 hd x (List.mem_of_mem_take hx)
end Go.Proofs.YtipdgobplfkipaaGreatDoor
namespace Go.Proofs.YtipdgobplfkipaaGreatDoor
open Go.RowKit
set_option maxRecDepth 100000
attribute [local irreducible] Go.Code.wpIn Go.wpListIn Go.Calls Gives Go.Exit.then Go.Exit.inBlock Done ObxE

theorem index1_any (s : ByteArray) (c : UInt8) (w0 : World) : Calls Tryz.prog 131 #[.string s, .string ⟨#[c]⟩] w0 (Ret fun v w => v = .int .i64 (if scan (notB c) s 0 < s.size then ((scan (notB c) s 0 : Nat) : Int) else -1) ∧ St w0 [] w) := by
  refine (Tryz.stringslite_Index_one s c w0).mono (fun e w h => ?_)
  obtain ⟨rfl, rfl⟩ := h
  have h1 := idx_scan c s _ 0 (Nat.le_refl _) (Nat.zero_le _)
  rw [List.drop_zero] at h1
  refine ⟨_, rfl, ?_, St.refl w⟩
  rw [h1]
  by_cases h : scan (notB c) s 0 < s.size
  · rw [if_pos h, if_pos h]; simp
  · rw [if_neg h, if_neg h]
theorem cut37_any (s : ByteArray) (c : UInt8) (hs : s.size ≤ 100000000) (w0 : World) : Calls Tryz.prog 99 #[.string s, .string ⟨#[c]⟩] w0 (Ret fun v w => v = .tuple #[.string (cutR c s).1, .string (cutR c s).2.1, .bool (cutR c s).2.2] ∧ St w0 [] w) := by
  refine enter Tryz.func99 rfl Tryz.ntmps99 rfl (fun a hk => ?_); have hS := St.refl w0
  (repeat' (first | (show wpListIn _ _ _ _ _ (_ :: _) _ _; first | (refine wx1 ?_; clear hk a; intro a hk) | (refine wx2 ?_ ?_ <;> (intro hp; clear hk a; intro a hk)) | (refine wx3 ?_; clear hk hS a; intro w b hS a hk) | (refine wx4 ?_; clear hk hS a; intro w hS a hk) | (refine wx5 ?_; clear hk hS a; intro w v hS a hk) | fail) | refine wx0 ?_ | (refine s_end hk ?_; clear hk a; intro a hk) | fail))
  refine sg hk (g_callO hk (hf := by kernel_rfl) (hc := index1_any s c _) (h := ?_)); clear hk a; rintro _ w ⟨rfl, hS1⟩ a hk; replace hS := hS.call0 hS1; clear hS1
  unfold cutR
  by_cases h : scan (notB c) s 0 < s.size
  · rw [if_pos h] at hk
    rw [if_pos h]
    generalize scan (notB c) s 0 = j at *
    have h1 : (⟨#[c]⟩ : ByteArray).size = 1 := rfl
    (repeat' (first | (show wpListIn _ _ _ _ _ (_ :: _) _ _; first | (refine wx1 ?_; clear hk a; intro a hk) | (refine wx2 ?_ ?_ <;> (intro hp; clear hk a; intro a hk)) | (refine wx3 ?_; clear hk hS a; intro w b hS a hk) | (refine wx4 ?_; clear hk hS a; intro w hS a hk) | (refine wx5 ?_; clear hk hS a; intro w v hS a hk) | fail) | refine wx0 ?_ | (refine s_end hk ?_; clear hk a; intro a hk) | fail))
    refine wp_drawn 10 mixed (by kernel_rfl) hk hS ?_; clear hk hS a
    (repeat' (first | (show ObxE _ _ _ _ _ _ _ _ _ (_ :: _) _ _ _; first | refine ox1 ?_ | (refine ox2 ?_ ?_ <;> intro hp) | fail) | fail))
    refine obe_nil ⟨rfl, ?_⟩; intro us a w hk hS
    (repeat' (first | (show wpListIn _ _ _ _ _ (_ :: _) _ _; first | (refine wx1 ?_; clear hk a; intro a hk) | (refine wx2 ?_ ?_ <;> (intro hp; clear hk a; intro a hk)) | (refine wx3 ?_; clear hk hS a; intro w b hS a hk) | (refine wx4 ?_; clear hk hS a; intro w hS a hk) | (refine wx5 ?_; clear hk hS a; intro w v hS a hk) | fail) | refine wx0 ?_ | (refine s_end hk ?_; clear hk a; intro a hk) | fail))
    exact done3R hk rfl (.tmp rfl) (.tmp rfl) (.tmp rfl) (h := ⟨rfl, hS⟩)
  · rw [if_neg h] at hk
    rw [if_neg h]
    (repeat' (first | (show wpListIn _ _ _ _ _ (_ :: _) _ _; first | (refine wx1 ?_; clear hk a; intro a hk) | (refine wx2 ?_ ?_ <;> (intro hp; clear hk a; intro a hk)) | (refine wx3 ?_; clear hk hS a; intro w b hS a hk) | (refine wx4 ?_; clear hk hS a; intro w hS a hk) | (refine wx5 ?_; clear hk hS a; intro w v hS a hk) | fail) | refine wx0 ?_ | (refine s_end hk ?_; clear hk a; intro a hk) | fail))
    exact done3R hk rfl (.tmp rfl) (.tmp rfl) (.tmp rfl) (h := ⟨rfl, hS⟩)
theorem scut_any (s : ByteArray) (c : UInt8) (hs : s.size ≤ 100000000) (w0 : World) : Calls Tryz.prog 73 #[.string s, .string ⟨#[c]⟩] w0 (Ret fun v w => v = .tuple #[.string (cutR c s).1, .string (cutR c s).2.1, .bool (cutR c s).2.2] ∧ St w0 [] w) := by
  refine enter Tryz.func73 rfl Tryz.ntmps73 rfl (fun a hk => ?_); have hS := St.refl w0
  (repeat' (first | (show wpListIn _ _ _ _ _ (_ :: _) _ _; first | (refine wx1 ?_; clear hk a; intro a hk) | (refine wx2 ?_ ?_ <;> (intro hp; clear hk a; intro a hk)) | (refine wx3 ?_; clear hk hS a; intro w b hS a hk) | (refine wx4 ?_; clear hk hS a; intro w hS a hk) | (refine wx5 ?_; clear hk hS a; intro w v hS a hk) | fail) | refine wx0 ?_ | (refine s_end hk ?_; clear hk a; intro a hk) | fail))
  refine sg hk (g_callO hk (hf := by kernel_rfl) (hc := cut37_any s c hs _) (h := ?_)); clear hk a; rintro _ w ⟨rfl, hS1⟩ a hk; replace hS := hS.call0 hS1; clear hS1
  (repeat' (first | (show wpListIn _ _ _ _ _ (_ :: _) _ _; first | (refine wx1 ?_; clear hk a; intro a hk) | (refine wx2 ?_ ?_ <;> (intro hp; clear hk a; intro a hk)) | (refine wx3 ?_; clear hk hS a; intro w b hS a hk) | (refine wx4 ?_; clear hk hS a; intro w hS a hk) | (refine wx5 ?_; clear hk hS a; intro w v hS a hk) | fail) | refine wx0 ?_ | (refine s_end hk ?_; clear hk a; intro a hk) | fail))
  exact done3R hk rfl (.tmp rfl) (.tmp rfl) (.tmp rfl) (h := ⟨rfl, hS⟩)

section
variable {B : Bs} {L : List HP} {w : World}
theorem word_any (b : Nat) (s : ByteArray) (i o : Nat) (hs : s.size ≤ 100000000) (hi : i ≤ s.size) (hS : St B (rdr b s i o :: L) w) :
    Calls Tryz.prog 74 #[.pointer (some ⟨b, 0, none⟩)] w
      (RoP (fun v w' => (tokF s i).kind = 4 ∧ v = .tuple #[.string (tokF s i).txt, .int .i64 ((tokF s i).at_ : Int)] ∧ St B (rdr b s (tokF s i).till o :: L) w')
        (fun ch w' => (tokF s i).kind ≠ 4 ∧ ch = thrown (tokF s i).at_ 2 ∧ St B L w')) := by
  have hle := scan_le blkB s _ i (Nat.le_refl _) hi
  have htw := tok_word (s := s) (i := i)
  have htn := tok_noword (s := s) hi
  refine enterP Tryz.func74 rfl Tryz.ntmps74 rfl (fun a hk => ?_)
  (repeat' (first | (show wpListIn _ _ _ _ _ (_ :: _) _ _; first | (refine wx1 ?_; clear hk a; intro a hk) | (refine wx2 ?_ ?_ <;> (intro hp; clear hk a; intro a hk)) | (refine wx3 ?_; clear hk hS a; intro w b hS a hk) | (refine wx4 ?_; clear hk hS a; intro w hS a hk) | (refine wx5 ?_; clear hk hS a; intro w v hS a hk) | fail) | refine wx0 ?_ | (refine s_end hk ?_; clear hk a; intro a hk) | fail))
  refine sg hk (g_callO hk (hf := by kernel_rfl) (hc := skip_any b s i o hs hi hS) (h := ?_)); clear hk hS a; intro vr w hS a hk
  generalize scan blkB s i = j at *
  have hge := scan_ge visB s _ j (Nat.le_refl _)
  have hle2 := scan_le visB s _ j (Nat.le_refl _) hle
  (repeat' (first | (show wpListIn _ _ _ _ _ (_ :: _) _ _; first | (refine wx1 ?_; clear hk a; intro a hk) | (refine wx2 ?_ ?_ <;> (intro hp; clear hk a; intro a hk)) | (refine wx3 ?_; clear hk hS a; intro w b hS a hk) | (refine wx4 ?_; clear hk hS a; intro w hS a hk) | (refine wx5 ?_; clear hk hS a; intro w v hS a hk) | fail) | refine wx0 ?_ | (refine s_end hk ?_; clear hk a; intro a hk) | fail))
  refine wp_while (fun _ => []) (fun x => rdr b s x o :: L) (fun x => j ≤ x ∧ x ≤ s.size ∧ scan visB s x = scan visB s j) (fun x => s.size - x) j hk (by repeat (first | exact trivial | refine ⟨rfl, ?_⟩)) hS.sb ⟨Nat.le_refl _, hle, rfl⟩ ?_
  clear hk hS a
  rintro x a w hk hS ⟨hjx, hx, hsc⟩
  by_cases hgo : x < scan visB s j
  · by_cases hxl : x < s.size
    · by_cases hv : visB s[x] = true
      · have hst := scan_yes (p := visB) hxl hv
        have hwd := fun w0 => worded_any s[x] w0
        rw [hv] at hwd
        (repeat' (first | (show wpListIn _ _ _ _ _ (_ :: _) _ _; first | (refine wx1 ?_; clear hk a; intro a hk) | (refine wx2 ?_ ?_ <;> (intro hp; clear hk a; intro a hk)) | (refine wx3 ?_; clear hk hS a; intro w b hS a hk) | (refine wx4 ?_; clear hk hS a; intro w hS a hk) | (refine wx5 ?_; clear hk hS a; intro w v hS a hk) | fail) | refine wx0 ?_ | (refine s_end hk ?_; clear hk a; intro a hk) | fail))
        refine wp_drawn 22 mixed (by kernel_rfl) hk hS ?_; clear hk hS a
        (repeat' (first | (show ObxE _ _ _ _ _ _ _ _ _ (_ :: _) _ _ _; first | refine ox1 ?_ | (refine ox2 ?_ ?_ <;> intro hp) | fail) | fail))
        refine' obe_val (fun us a w hk hd hS => ?_) ?_; rotate_left; focus (have hk := Kn.vw hk (by repeat (first | exact VW.nil | apply VW.val rfl | apply VW.base rfl rfl | apply VW.res rfl | apply VW.upd rfl | apply VW.cpy rfl | apply VW.dep rfl | apply VW.fn rfl | apply VW.lnd rfl | apply VW.tak rfl)); exact g_callO hk (hf := by kernel_rfl) (hc := hwd _) (h := fun _ _ h => h))
        (repeat' (first | (show ObxE _ _ _ _ _ _ _ _ _ (_ :: _) _ _ _; first | refine ox1 ?_ | (refine ox2 ?_ ?_ <;> intro hp) | fail) | fail))
        refine obe_nil ⟨rfl, ?_⟩; intro us a w hk hS
        (repeat' (first | (show wpListIn _ _ _ _ _ (_ :: _) _ _; first | (refine wx1 ?_; clear hk a; intro a hk) | (refine wx2 ?_ ?_ <;> (intro hp; clear hk a; intro a hk)) | (refine wx3 ?_; clear hk hS a; intro w b hS a hk) | (refine wx4 ?_; clear hk hS a; intro w hS a hk) | (refine wx5 ?_; clear hk hS a; intro w v hS a hk) | fail) | refine wx0 ?_ | (refine s_end hk ?_; clear hk a; intro a hk) | fail))
        exact ⟨x + 1, by omega, hk.sd, hS.sb, by omega, by omega, by rw [← hst]; exact hsc⟩
      · rw [scan_no (p := visB) hxl hv] at hsc; omega
    · rw [scan_end (p := visB) hxl] at hsc; omega
  · have hxe : x = scan visB s j := by
      have := scan_ge visB s _ x (Nat.le_refl _)
      omega
    have hout : ¬ (x < s.size) ∨ ∃ h : x < s.size, visB s[x] = false := by
      by_cases hxl : x < s.size
      · right
        refine ⟨hxl, ?_⟩
        cases hv : visB s[x] with
        | false => rfl
        | true =>
          have := scan_stop visB s _ j (Nat.le_refl _) (by rw [← hxe]; exact hxl)
          simp only [← hxe] at this
          exact absurd hv this
      · exact .inl hxl
    rcases hout with hxl | ⟨hxl, hv⟩
    · (repeat' (first | (show wpListIn _ _ _ _ _ (_ :: _) _ _; first | (refine wx1 ?_; clear hk a; intro a hk) | (refine wx2 ?_ ?_ <;> (intro hp; clear hk a; intro a hk)) | (refine wx3 ?_; clear hk hS a; intro w b hS a hk) | (refine wx4 ?_; clear hk hS a; intro w hS a hk) | (refine wx5 ?_; clear hk hS a; intro w v hS a hk) | fail) | refine wx0 ?_ | (refine s_end hk ?_; clear hk a; intro a hk) | fail))
      refine wp_drawn 22 mixed (by kernel_rfl) hk hS ?_; clear hk hS a
      (repeat' (first | (show ObxE _ _ _ _ _ _ _ _ _ (_ :: _) _ _ _; first | refine ox1 ?_ | (refine ox2 ?_ ?_ <;> intro hp) | fail) | fail))
      refine obe_nil ⟨rfl, ?_⟩; intro us a w hk hS
      by_cases hxj : j = x
      · (repeat' (first | (show wpListIn _ _ _ _ _ (_ :: _) _ _; first | (refine wx1 ?_; clear hk a; intro a hk) | (refine wx2 ?_ ?_ <;> (intro hp; clear hk a; intro a hk)) | (refine wx3 ?_; clear hk hS a; intro w b hS a hk) | (refine wx4 ?_; clear hk hS a; intro w hS a hk) | (refine wx5 ?_; clear hk hS a; intro w v hS a hk) | fail) | refine wx0 ?_ | (refine s_end hk ?_; clear hk a; intro a hk) | fail))
        refine sgP hk ((g_callP hk (hf := by kernel_rfl) (hc := fail_any j 2 _)).mono (fun v w h => h.elim) (fun ch w h a hk => ?_))
        obtain ⟨rfl, hS1⟩ := h
        (repeat (first | refine then_panic ?_ | refine inBlock_panic ?_))
        obtain ⟨h4, hat⟩ := htn (by omega)
        exact DoneP.panic hk ⟨h4, by rw [hat], (hS.call0 hS1).sub .cons_drop⟩
      · (repeat' (first | (show wpListIn _ _ _ _ _ (_ :: _) _ _; first | (refine wx1 ?_; clear hk a; intro a hk) | (refine wx2 ?_ ?_ <;> (intro hp; clear hk a; intro a hk)) | (refine wx3 ?_; clear hk hS a; intro w b hS a hk) | (refine wx4 ?_; clear hk hS a; intro w hS a hk) | (refine wx5 ?_; clear hk hS a; intro w v hS a hk) | fail) | refine wx0 ?_ | (refine s_end hk ?_; clear hk a; intro a hk) | fail))
        refine wp_drawn 13 mixed (by kernel_rfl) hk hS ?_; clear hk hS a
        (repeat' (first | (show ObxE _ _ _ _ _ _ _ _ _ (_ :: _) _ _ _; first | refine ox1 ?_ | (refine ox2 ?_ ?_ <;> intro hp) | fail) | fail))
        refine obe_nil ⟨rfl, ?_⟩; intro us a w hk hS
        (repeat' (first | (show wpListIn _ _ _ _ _ (_ :: _) _ _; first | (refine wx1 ?_; clear hk a; intro a hk) | (refine wx2 ?_ ?_ <;> (intro hp; clear hk a; intro a hk)) | (refine wx3 ?_; clear hk hS a; intro w b hS a hk) | (refine wx4 ?_; clear hk hS a; intro w hS a hk) | (refine wx5 ?_; clear hk hS a; intro w v hS a hk) | fail) | refine wx0 ?_ | (refine s_end hk ?_; clear hk a; intro a hk) | fail))
        have ht := htw (by omega)
        rw [ht]
        refine DoneP.ret (done2 hk (h := ⟨rfl, ?_, ?_⟩))
        · rw [← hxe]; rfl
        · rw [← hxe]; exact hS
    · have hwd := fun w0 => worded_any s[x] w0
      rw [hv] at hwd
      (repeat' (first | (show wpListIn _ _ _ _ _ (_ :: _) _ _; first | (refine wx1 ?_; clear hk a; intro a hk) | (refine wx2 ?_ ?_ <;> (intro hp; clear hk a; intro a hk)) | (refine wx3 ?_; clear hk hS a; intro w b hS a hk) | (refine wx4 ?_; clear hk hS a; intro w hS a hk) | (refine wx5 ?_; clear hk hS a; intro w v hS a hk) | fail) | refine wx0 ?_ | (refine s_end hk ?_; clear hk a; intro a hk) | fail))
      refine wp_drawn 22 mixed (by kernel_rfl) hk hS ?_; clear hk hS a
      (repeat' (first | (show ObxE _ _ _ _ _ _ _ _ _ (_ :: _) _ _ _; first | refine ox1 ?_ | (refine ox2 ?_ ?_ <;> intro hp) | fail) | fail))
      refine' obe_val (fun us a w hk hd hS => ?_) ?_; rotate_left; focus (have hk := Kn.vw hk (by repeat (first | exact VW.nil | apply VW.val rfl | apply VW.base rfl rfl | apply VW.res rfl | apply VW.upd rfl | apply VW.cpy rfl | apply VW.dep rfl | apply VW.fn rfl | apply VW.lnd rfl | apply VW.tak rfl)); exact g_callO hk (hf := by kernel_rfl) (hc := hwd _) (h := fun _ _ h => h))
      (repeat' (first | (show ObxE _ _ _ _ _ _ _ _ _ (_ :: _) _ _ _; first | refine ox1 ?_ | (refine ox2 ?_ ?_ <;> intro hp) | fail) | fail))
      refine obe_nil ⟨rfl, ?_⟩; intro us a w hk hS
      by_cases hxj : j = x
      · (repeat' (first | (show wpListIn _ _ _ _ _ (_ :: _) _ _; first | (refine wx1 ?_; clear hk a; intro a hk) | (refine wx2 ?_ ?_ <;> (intro hp; clear hk a; intro a hk)) | (refine wx3 ?_; clear hk hS a; intro w b hS a hk) | (refine wx4 ?_; clear hk hS a; intro w hS a hk) | (refine wx5 ?_; clear hk hS a; intro w v hS a hk) | fail) | refine wx0 ?_ | (refine s_end hk ?_; clear hk a; intro a hk) | fail))
        refine sgP hk ((g_callP hk (hf := by kernel_rfl) (hc := fail_any j 2 _)).mono (fun v w h => h.elim) (fun ch w h a hk => ?_))
        obtain ⟨rfl, hS1⟩ := h
        (repeat (first | refine then_panic ?_ | refine inBlock_panic ?_))
        obtain ⟨h4, hat⟩ := htn (by omega)
        exact DoneP.panic hk ⟨h4, by rw [hat], (hS.call0 hS1).sub .cons_drop⟩
      · (repeat' (first | (show wpListIn _ _ _ _ _ (_ :: _) _ _; first | (refine wx1 ?_; clear hk a; intro a hk) | (refine wx2 ?_ ?_ <;> (intro hp; clear hk a; intro a hk)) | (refine wx3 ?_; clear hk hS a; intro w b hS a hk) | (refine wx4 ?_; clear hk hS a; intro w hS a hk) | (refine wx5 ?_; clear hk hS a; intro w v hS a hk) | fail) | refine wx0 ?_ | (refine s_end hk ?_; clear hk a; intro a hk) | fail))
        refine wp_drawn 13 mixed (by kernel_rfl) hk hS ?_; clear hk hS a
        (repeat' (first | (show ObxE _ _ _ _ _ _ _ _ _ (_ :: _) _ _ _; first | refine ox1 ?_ | (refine ox2 ?_ ?_ <;> intro hp) | fail) | fail))
        refine obe_nil ⟨rfl, ?_⟩; intro us a w hk hS
        (repeat' (first | (show wpListIn _ _ _ _ _ (_ :: _) _ _; first | (refine wx1 ?_; clear hk a; intro a hk) | (refine wx2 ?_ ?_ <;> (intro hp; clear hk a; intro a hk)) | (refine wx3 ?_; clear hk hS a; intro w b hS a hk) | (refine wx4 ?_; clear hk hS a; intro w hS a hk) | (refine wx5 ?_; clear hk hS a; intro w v hS a hk) | fail) | refine wx0 ?_ | (refine s_end hk ?_; clear hk a; intro a hk) | fail))
        have ht := htw (by omega)
        rw [ht]
        refine DoneP.ret (done2 hk (h := ⟨rfl, ?_, ?_⟩))
        · rw [← hxe]; rfl
        · rw [← hxe]; exact hS
end
end Go.Proofs.YtipdgobplfkipaaGreatDoor
namespace Go.Proofs.YtipdgobplfkipaaGreatDoor
open Go.RowKit
set_option maxRecDepth 100000
attribute [local irreducible] Go.Code.wpIn Go.wpListIn Go.Calls Gives Go.Exit.then Go.Exit.inBlock Done ObxE

set_option maxHeartbeats 4000000 in
theorem cut8_any (s : ByteArray) (hs : s.size ≤ 1000000) (w0 : World) : Calls Tryz.prog 78 #[.string s] w0 (Ret fun v w => v = .tuple #[.string (cutR 61 s).1, .string (cutR 61 s).2.1, .bool (cutR 61 s).2.2] ∧ St w0 [] w) := by
  refine enter Tryz.func78 rfl Tryz.ntmps78 rfl (fun a hk => ?_); have hS := St.refl w0
  (repeat' (first | (show wpListIn _ _ _ _ _ (_ :: _) _ _; first | (refine wx1 ?_; clear hk a; intro a hk) | (refine wx2 ?_ ?_ <;> (intro hp; clear hk a; intro a hk)) | (refine wx3 ?_; clear hk hS a; intro w b hS a hk) | (refine wx4 ?_; clear hk hS a; intro w hS a hk) | (refine wx5 ?_; clear hk hS a; intro w v hS a hk) | fail) | refine wx0 ?_ | (refine s_end hk ?_; clear hk a; intro a hk) | fail))
  replace hk := Kn.kp [0, 5] hk
  refine wp_while (fun x : Nat => [(5, .int .i64 (x : Int))]) (fun _ => []) (fun x => x ≤ s.size ∧ scan (notB 61) s x = scan (notB 61) s 0) (fun x => s.size - x) 0 hk (by repeat (first | exact trivial | refine ⟨rfl, ?_⟩)) hS.sb ⟨Nat.zero_le _, rfl⟩ ?_
  clear hk hS a
  rintro x a w hk hS ⟨hx, hsc⟩
  by_cases hxl : x < s.size
  · by_cases hb : s[x].toNat = 61
    · have hq : scan (notB 61) s 0 = x := by rw [← hsc]; exact scan_no hxl (by unfold notB; rw [decide_eq_true (show s[x].toNat = UInt8.toNat 61 from hb)]; decide)
      unfold cutR
      rw [hq, if_pos hxl]
      (repeat' (first | (show wpListIn _ _ _ _ _ (_ :: _) _ _; first | (refine wx1 ?_; clear hk a; intro a hk) | (refine wx2 ?_ ?_ <;> (intro hp; clear hk a; intro a hk)) | (refine wx3 ?_; clear hk hS a; intro w b hS a hk) | (refine wx4 ?_; clear hk hS a; intro w hS a hk) | (refine wx5 ?_; clear hk hS a; intro w v hS a hk) | fail) | refine wx0 ?_ | (refine s_end hk ?_; clear hk a; intro a hk) | fail))
      refine wp_drawn 10 mixed (by kernel_rfl) hk hS ?_; clear hk hS a
      (repeat' (first | (show ObxE _ _ _ _ _ _ _ _ _ (_ :: _) _ _ _; first | refine ox1 ?_ | (refine ox2 ?_ ?_ <;> intro hp) | fail) | fail))
      refine obe_nil ⟨rfl, ?_⟩; intro us a w hk hS
      (repeat' (first | (show wpListIn _ _ _ _ _ (_ :: _) _ _; first | (refine wx1 ?_; clear hk a; intro a hk) | (refine wx2 ?_ ?_ <;> (intro hp; clear hk a; intro a hk)) | (refine wx3 ?_; clear hk hS a; intro w b hS a hk) | (refine wx4 ?_; clear hk hS a; intro w hS a hk) | (refine wx5 ?_; clear hk hS a; intro w v hS a hk) | fail) | refine wx0 ?_ | (refine s_end hk ?_; clear hk a; intro a hk) | fail))
      exact done3R hk rfl (.tmp rfl) (.tmp rfl) (.tmp rfl) (h := ⟨rfl, hS⟩)
    · have hst := scan_yes (p := notB 61) hxl (by unfold notB; rw [decide_eq_false (show ¬ s[x].toNat = UInt8.toNat 61 from hb)]; rfl)
      (repeat' (first | (show wpListIn _ _ _ _ _ (_ :: _) _ _; first | (refine wx1 ?_; clear hk a; intro a hk) | (refine wx2 ?_ ?_ <;> (intro hp; clear hk a; intro a hk)) | (refine wx3 ?_; clear hk hS a; intro w b hS a hk) | (refine wx4 ?_; clear hk hS a; intro w hS a hk) | (refine wx5 ?_; clear hk hS a; intro w v hS a hk) | fail) | refine wx0 ?_ | (refine s_end hk ?_; clear hk a; intro a hk) | fail))
      exact ⟨x + 1, by omega, hk.sd, hS.sb, by omega, by rw [← hst]; exact hsc⟩
  · have hq : scan (notB 61) s 0 = x := by rw [← hsc]; exact scan_end hxl
    unfold cutR
    rw [hq, if_neg hxl]
    (repeat' (first | (show wpListIn _ _ _ _ _ (_ :: _) _ _; first | (refine wx1 ?_; clear hk a; intro a hk) | (refine wx2 ?_ ?_ <;> (intro hp; clear hk a; intro a hk)) | (refine wx3 ?_; clear hk hS a; intro w b hS a hk) | (refine wx4 ?_; clear hk hS a; intro w hS a hk) | (refine wx5 ?_; clear hk hS a; intro w v hS a hk) | fail) | refine wx0 ?_ | (refine s_end hk ?_; clear hk a; intro a hk) | fail))
    exact done3R hk rfl (.tmp rfl) (.tmp rfl) (.tmp rfl) (h := ⟨rfl, hS⟩)
end Go.Proofs.YtipdgobplfkipaaGreatDoor
namespace Go.Proofs.YtipdgobplfkipaaGreatDoor
open Go.RowKit

section
variable {α : Type} [Enc α] [EncI α] {P : Program} {W : World}
end
theorem Arg.str {P : Program} {W : World} {T : TypeId} {v : Value} (h : Arg P W T v) (hT : P.underlying T = some .string) (ha : aggOf P T = some false) : ∃ s, v = .string s ∧ s.size ≤ maxLen := by
  obtain ⟨n, h1, h2⟩ := rdg_str (D := 7) hT h.1
  rw [h.2.2 ha] at h1
  simp at h1
  exact ⟨n, h1, h2⟩
end Go.Proofs.YtipdgobplfkipaaGreatDoor
