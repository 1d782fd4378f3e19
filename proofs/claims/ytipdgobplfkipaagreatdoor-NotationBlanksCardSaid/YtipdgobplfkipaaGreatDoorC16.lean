/- Layer 8: the tokens of a text: the document. Layer 8, plain: a view, of tokens alone. Layer 8, plain: tokens spelled out with blanks between are the same tokens. Layer 8, plain: an element's words, read again. Layer 8, plain: what is written is read again. Layer 8, plain: a written view's text is its tokens, spelled out; read again it is that view. Texts are cut. Layer 4's reference, and what the statements of later layers begin with. Layer 7's reference: attributes, by their names. Layer 3: lists of texts, each once. Layer 3's reference: lists of texts, each once. Layer 7: views as the program's own; views of flat nodes. Layer 7: nodes told flat, each with how deep it stands. Layer 7: views of flat nodes. -/
import Derived.Test.YtipdgobplfkipaaGreatDoorC08
import Derived.Test.YtipdgobplfkipaaGreatDoorC07
import Derived.Lib.ItoaLen
import Derived.Test.YtipdgobplfkipaaGreatDoorC06
import Derived.Test.YtipdgobplfkipaaGreatDoorC09
set_option linter.all false
namespace Go.Proofs.YtipdgobplfkipaaGreatDoor
open Go.RowKit
set_option maxRecDepth 100000
attribute [local irreducible] Go.Code.wpIn Go.wpListIn Go.Calls Gives Go.Exit.then Go.Exit.inBlock Done ObxE

theorem rworded8_any (b : UInt8) (w0 : World) : Calls Tryz.prog 29 #[.int .u8 (b.toNat : Nat)] w0 (Ret fun v w => v = .bool (visB b) ∧ St w0 [] w) := by
  refine enter Tryz.func29 rfl Tryz.ntmps29 rfl (fun a hk => ?_); have hS := St.refl w0
  (repeat' (first | (show wpListIn _ _ _ _ _ (_ :: _) _ _; first | (refine wx1 ?_; clear hk a; intro a hk) | (refine wx2 ?_ ?_ <;> (intro hp; clear hk a; intro a hk)) | (refine wx3 ?_; clear hk hS a; intro w b hS a hk) | (refine wx4 ?_; clear hk hS a; intro w hS a hk) | (refine wx5 ?_; clear hk hS a; intro w v hS a hk) | fail) | refine wx0 ?_ | (refine s_end hk ?_; clear hk a; intro a hk) | fail))
  all_goals exact done1 hk (h := ⟨by unfold visB; first | rw [decide_eq_true (by omega)] | rw [decide_eq_false (by omega)], hS.nil⟩)
abbrev TkC := Int × Int × ByteArray
def tkC (t : Tok) : TkC := (t.kind, t.at_, t.txt)
theorem ext_step {s : ByteArray} {a j : Nat} (ha : a ≤ j) (hj : j < s.size) (p : UInt8 → Bool) : (s.extract a (j + 1)).data.toList.all p = ((s.extract a j).data.toList.all p && p s[j]) := by
  rw [ext_list, ext_list]
  have hl : j < s.data.toList.length := by simpa using hj
  have e : s.data.toList.take (j + 1) = s.data.toList.take j ++ [s[j]] := by
    rw [List.take_add_one, List.getElem?_eq_getElem hl]; rfl
  rw [e, List.drop_append_of_le_length (by rw [List.length_take]; omega), List.all_append]
  simp
set_option maxHeartbeats 16000000 in
theorem tokens_any (s : ByteArray) (hs : s.size ≤ 1000000) (w0 : World) : Calls Tryz.prog 13 #[.string s] w0 (Ret fun v w => St w0 [OwT 52 ((toksL s 0).map tkC) v] w) := by
  refine enter Tryz.func13 rfl Tryz.ntmps13 rfl (fun a hk => ?_); have hS := St.refl w0
  (repeat' (first | (show wpListIn _ _ _ _ _ (_ :: _) _ _; first | (refine wx1 ?_; clear hk a; intro a hk) | (refine wx2 ?_ ?_ <;> (intro hp; clear hk a; intro a hk)) | (refine wx3 ?_; clear hk hS a; intro w b hS a hk) | (refine wx4 ?_; clear hk hS a; intro w hS a hk) | (refine wx5 ?_; clear hk hS a; intro w v hS a hk) | fail) | refine wx0 ?_ | (refine s_end hk ?_; clear hk a; intro a hk) | fail))
  refine sg hk (g_bs0 TkC hS ?_ (hT := eT rfl) (hE := zT rfl)); clear hk hS a; intro w v3 hS a hk
  (repeat' (first | (show wpListIn _ _ _ _ _ (_ :: _) _ _; first | (refine wx1 ?_; clear hk a; intro a hk) | (refine wx2 ?_ ?_ <;> (intro hp; clear hk a; intro a hk)) | (refine wx3 ?_; clear hk hS a; intro w b hS a hk) | (refine wx4 ?_; clear hk hS a; intro w hS a hk) | (refine wx5 ?_; clear hk hS a; intro w v hS a hk) | fail) | refine wx0 ?_ | (refine s_end hk ?_; clear hk a; intro a hk) | fail))
  replace hk := Kn.kp [0, 3, 4] hk
  refine wp_while (fun x : Nat × List Tok × Value => [(3, x.2.2), (4, .int .i64 (x.1 : Int))]) (fun x => [OwT 52 (x.2.1.map tkC) x.2.2]) (fun x => x.1 ≤ s.size ∧ toksL s 0 = x.2.1 ++ toksL s x.1 ∧ x.2.1.length ≤ x.1) (fun x => s.size - x.1) (0, [], v3) hk (by repeat (first | exact trivial | refine ⟨rfl, ?_⟩)) hS.sb ⟨Nat.zero_le _, rfl, Nat.le_refl _⟩ ?_
  clear hk hS a
  rintro ⟨i, dn, v4⟩ a w hk hS ⟨hi, htl, hdl⟩
  simp only at hk hS hi htl hdl
  rw [htl]
  have hml : (dn.map tkC).length = dn.length := List.length_map _
  (repeat' (first | (show wpListIn _ _ _ _ _ (_ :: _) _ _; first | (refine wx1 ?_; clear hk a; intro a hk) | (refine wx2 ?_ ?_ <;> (intro hp; clear hk a; intro a hk)) | (refine wx3 ?_; clear hk hS a; intro w b hS a hk) | (refine wx4 ?_; clear hk hS a; intro w hS a hk) | (refine wx5 ?_; clear hk hS a; intro w v hS a hk) | fail) | refine wx0 ?_ | (refine s_end hk ?_; clear hk a; intro a hk) | fail))
  replace hk := Kn.kp [0, 3, 4] hk
  refine wp_while (fun x : Nat => [(4, .int .i64 (x : Int))]) (fun _ => [OwT 52 (dn.map tkC) v4]) (fun x => i ≤ x ∧ x ≤ s.size ∧ scan blkB s x = scan blkB s i) (fun x => s.size - x) i hk (by repeat (first | exact trivial | refine ⟨rfl, ?_⟩)) hS.sb ⟨Nat.le_refl _, hi, rfl⟩ ?_
  clear hk hS a
  rintro x a w hk hS ⟨hix, hx, hsc⟩
  by_cases hgo : ∃ h : x < s.size, s[x].toNat = 32
  · obtain ⟨hxl, hb⟩ := hgo
    have hst := scan_yes (p := blkB) hxl (by unfold blkB; rw [decide_eq_true hb])
    (repeat' (first | (show wpListIn _ _ _ _ _ (_ :: _) _ _; first | (refine wx1 ?_; clear hk a; intro a hk) | (refine wx2 ?_ ?_ <;> (intro hp; clear hk a; intro a hk)) | (refine wx3 ?_; clear hk hS a; intro w b hS a hk) | (refine wx4 ?_; clear hk hS a; intro w hS a hk) | (refine wx5 ?_; clear hk hS a; intro w v hS a hk) | fail) | refine wx0 ?_ | (refine s_end hk ?_; clear hk a; intro a hk) | fail))
    exact ⟨x + 1, by omega, hk.sd, hS.sb, by omega, by omega, by rw [← hst]; exact hsc⟩
  · have hq : scan blkB s i = x := by
      rw [← hsc]
      by_cases hxl : x < s.size
      · exact scan_no hxl (by unfold blkB; rw [decide_eq_false (fun h => hgo ⟨hxl, h⟩)]; decide)
      · exact scan_end hxl
    have te := @tok_e s i
    have t1 := @tok_1 s i
    have t2 := @tok_2 s i
    have t3 := @tok_3 s i
    have t5 := @tok_5 s i
    have t4 := @tok_4 s i
    have t6 := @tok_6 s i
    have tm := @toks_more s i
    have tn := @toks_end s i
    simp only [hq] at te t1 t2 t3 t4 t5 t6
    by_cases hxl : x < s.size
    · have n32 : s[x].toNat ≠ 32 := fun h => hgo ⟨hxl, h⟩
      by_cases c40 : s[x].toNat = 40
      · have e := t1 hxl c40
        have em := tm (by rw [e]; show (1 : Nat) ≠ 0; decide) (by rw [e]; show (1 : Nat) ≠ 5; decide)
        rw [e] at em
        (repeat' (first | (show wpListIn _ _ _ _ _ (_ :: _) _ _; first | (refine wx1 ?_; clear hk a; intro a hk) | (refine wx2 ?_ ?_ <;> (intro hp; clear hk a; intro a hk)) | (refine wx3 ?_; clear hk hS a; intro w b hS a hk) | (refine wx4 ?_; clear hk hS a; intro w hS a hk) | (refine wx5 ?_; clear hk hS a; intro w v hS a hk) | fail) | refine wx0 ?_ | (refine s_end hk ?_; clear hk a; intro a hk) | fail))
        refine sg hk (g_bsT (xs := [(((1 : Int), ((x : Int), (⟨#[]⟩ : ByteArray))) : TkC)]) (m := 0) hk hS ?_ (hT := eT rfl) (hE := zT rfl) (hz := oT rfl)); clear hk hS a; intro w ve hS a hk
        (repeat' (first | (show wpListIn _ _ _ _ _ (_ :: _) _ _; first | (refine wx1 ?_; clear hk a; intro a hk) | (refine wx2 ?_ ?_ <;> (intro hp; clear hk a; intro a hk)) | (refine wx3 ?_; clear hk hS a; intro w b hS a hk) | (refine wx4 ?_; clear hk hS a; intro w hS a hk) | (refine wx5 ?_; clear hk hS a; intro w v hS a hk) | fail) | refine wx0 ?_ | (refine s_end hk ?_; clear hk a; intro a hk) | fail))
        rename Value => v8
        refine ⟨(x + 1, dn ++ [⟨1, x, ⟨#[]⟩, x + 1⟩], v8), by show s.size - (x + 1) < s.size - i; omega, hk.sd, ?_, by show x + 1 ≤ s.size; omega, ?_, ?_⟩
        · rw [List.map_append]; exact hS.sb
        · rw [em, List.append_assoc]; rfl
        · show (dn ++ [_]).length ≤ x + 1; rw [List.length_append, List.length_cons, List.length_nil]; omega
      · by_cases c41 : s[x].toNat = 41
        · have e := t2 hxl c41
          have em := tm (by rw [e]; show (2 : Nat) ≠ 0; decide) (by rw [e]; show (2 : Nat) ≠ 5; decide)
          rw [e] at em
          (repeat' (first | (show wpListIn _ _ _ _ _ (_ :: _) _ _; first | (refine wx1 ?_; clear hk a; intro a hk) | (refine wx2 ?_ ?_ <;> (intro hp; clear hk a; intro a hk)) | (refine wx3 ?_; clear hk hS a; intro w b hS a hk) | (refine wx4 ?_; clear hk hS a; intro w hS a hk) | (refine wx5 ?_; clear hk hS a; intro w v hS a hk) | fail) | refine wx0 ?_ | (refine s_end hk ?_; clear hk a; intro a hk) | fail))
          refine sg hk (g_bsT (xs := [(((2 : Int), ((x : Int), (⟨#[]⟩ : ByteArray))) : TkC)]) (m := 0) hk hS ?_ (hT := eT rfl) (hE := zT rfl) (hz := oT rfl)); clear hk hS a; intro w ve hS a hk
          (repeat' (first | (show wpListIn _ _ _ _ _ (_ :: _) _ _; first | (refine wx1 ?_; clear hk a; intro a hk) | (refine wx2 ?_ ?_ <;> (intro hp; clear hk a; intro a hk)) | (refine wx3 ?_; clear hk hS a; intro w b hS a hk) | (refine wx4 ?_; clear hk hS a; intro w hS a hk) | (refine wx5 ?_; clear hk hS a; intro w v hS a hk) | fail) | refine wx0 ?_ | (refine s_end hk ?_; clear hk a; intro a hk) | fail))
          rename Value => v8
          refine ⟨(x + 1, dn ++ [⟨2, x, ⟨#[]⟩, x + 1⟩], v8), by show s.size - (x + 1) < s.size - i; omega, hk.sd, ?_, by show x + 1 ≤ s.size; omega, ?_, ?_⟩
          · rw [List.map_append]; exact hS.sb
          · rw [em, List.append_assoc]; rfl
          · show (dn ++ [_]).length ≤ x + 1; rw [List.length_append, List.length_cons, List.length_nil]; omega
        · by_cases c39 : s[x].toNat = 39
          · have hge := scan_ge nqB s _ (x + 1) (Nat.le_refl _)
            have hle := scan_le nqB s _ (x + 1) (Nat.le_refl _) (by omega)
            (repeat' (first | (show wpListIn _ _ _ _ _ (_ :: _) _ _; first | (refine wx1 ?_; clear hk a; intro a hk) | (refine wx2 ?_ ?_ <;> (intro hp; clear hk a; intro a hk)) | (refine wx3 ?_; clear hk hS a; intro w b hS a hk) | (refine wx4 ?_; clear hk hS a; intro w hS a hk) | (refine wx5 ?_; clear hk hS a; intro w v hS a hk) | fail) | refine wx0 ?_ | (refine s_end hk ?_; clear hk a; intro a hk) | fail))
            replace hk := Kn.kp [0, 3, 4, 5, 6] hk
            refine wp_while (fun y : Nat × Bool => [(4, .int .i64 (y.1 : Int)), (6, .bool y.2)]) (fun _ => [OwT 52 (dn.map tkC) v4]) (fun y => x + 1 ≤ y.1 ∧ y.1 ≤ s.size ∧ scan nqB s y.1 = scan nqB s (x + 1) ∧ y.2 = (s.extract (x + 1) y.1).data.toList.all priL) (fun y => s.size - y.1) (x + 1, true) hk (by repeat (first | exact trivial | refine ⟨rfl, ?_⟩)) hS.sb ⟨Nat.le_refl _, hxl, rfl, by simp [ByteArray.data_extract]⟩ ?_
            clear hk hS a
            rintro ⟨y, good⟩ a w hk hS ⟨hy1, hy2, hy3, hy4⟩
            simp only at hk hS hy1 hy2 hy3 hy4
            by_cases hgo2 : ∃ h : y < s.size, s[y].toNat ≠ 39
            · obtain ⟨hyl, hyb⟩ := hgo2
              have hst := scan_yes (p := nqB) hyl (by unfold nqB; rw [decide_eq_false hyb]; rfl)
              have hex := ext_step hy1 hyl priL
              rw [hst] at hy3
              cases good with
              | false =>
                (repeat' (first | (show wpListIn _ _ _ _ _ (_ :: _) _ _; first | (refine wx1 ?_; clear hk a; intro a hk) | (refine wx2 ?_ ?_ <;> (intro hp; clear hk a; intro a hk)) | (refine wx3 ?_; clear hk hS a; intro w b hS a hk) | (refine wx4 ?_; clear hk hS a; intro w hS a hk) | (refine wx5 ?_; clear hk hS a; intro w v hS a hk) | fail) | refine wx0 ?_ | (refine s_end hk ?_; clear hk a; intro a hk) | fail))
                exact ⟨(y + 1, false), by show s.size - (y + 1) < s.size - y; omega, hk.sd, hS.sb, by show x + 1 ≤ y + 1; omega, hyl, hy3, by show false = _; rw [hex, ← hy4]; rfl⟩
              | true =>
                (repeat' (first | (show wpListIn _ _ _ _ _ (_ :: _) _ _; first | (refine wx1 ?_; clear hk a; intro a hk) | (refine wx2 ?_ ?_ <;> (intro hp; clear hk a; intro a hk)) | (refine wx3 ?_; clear hk hS a; intro w b hS a hk) | (refine wx4 ?_; clear hk hS a; intro w hS a hk) | (refine wx5 ?_; clear hk hS a; intro w v hS a hk) | fail) | refine wx0 ?_ | (refine s_end hk ?_; clear hk a; intro a hk) | fail))
                all_goals first
                  | exact ⟨(y + 1, true), by show s.size - (y + 1) < s.size - y; omega, hk.sd, hS.sb, by show x + 1 ≤ y + 1; omega, hyl, hy3, by show true = _; rw [hex, ← hy4]; unfold priL; rw [decide_eq_true (by omega)]; rfl⟩
                  | exact ⟨(y + 1, false), by show s.size - (y + 1) < s.size - y; omega, hk.sd, hS.sb, by show x + 1 ≤ y + 1; omega, hyl, hy3, by show false = _; rw [hex, ← hy4]; unfold priL; rw [decide_eq_false (by omega)]; rfl⟩
            · have hye : y = scan nqB s (x + 1) := by
                rw [← hy3]
                by_cases hyl : y < s.size
                · exact (scan_no hyl (by unfold nqB; rw [decide_eq_true (by by_cases h : s[y].toNat = 39; exact h; exact absurd ⟨hyl, h⟩ hgo2)]; decide)).symm
                · exact (scan_end hyl).symm
              have hgood : ∀ h : y < s.size, s[y].toNat = 39 := fun h => by by_cases h9 : s[y].toNat = 39; exact h9; exact absurd ⟨h, h9⟩ hgo2
              rw [← hye] at t3 t5 hge hle
              clear hgo2 hgo
              by_cases hfin : y < s.size ∧ good = true
              · obtain ⟨hyl, rfl⟩ := hfin
                have hy39 := hgood hyl
                have e := t3 hxl c39 ⟨hyl, hy4.symm⟩
                have em := tm (by rw [e]; show (3 : Nat) ≠ 0; decide) (by rw [e]; show (3 : Nat) ≠ 5; decide)
                rw [e] at em
                clear hgood t1 t2 t3 t4 t5 t6 te
                (repeat' (first | (show wpListIn _ _ _ _ _ (_ :: _) _ _; first | (refine wx1 ?_; clear hk a; intro a hk) | (refine wx2 ?_ ?_ <;> (intro hp; clear hk a; intro a hk)) | (refine wx3 ?_; clear hk hS a; intro w b hS a hk) | (refine wx4 ?_; clear hk hS a; intro w hS a hk) | (refine wx5 ?_; clear hk hS a; intro w v hS a hk) | fail) | refine wx0 ?_ | (refine s_end hk ?_; clear hk a; intro a hk) | fail))
                rw [show ((x : Int) + 1).toNat = x + 1 by omega, show ((y : Int)).toNat = y by omega] at hk
                (repeat' (first | (show wpListIn _ _ _ _ _ (_ :: _) _ _; first | (refine wx1 ?_; clear hk a; intro a hk) | (refine wx2 ?_ ?_ <;> (intro hp; clear hk a; intro a hk)) | (refine wx3 ?_; clear hk hS a; intro w b hS a hk) | (refine wx4 ?_; clear hk hS a; intro w hS a hk) | (refine wx5 ?_; clear hk hS a; intro w v hS a hk) | fail) | refine wx0 ?_ | (refine s_end hk ?_; clear hk a; intro a hk) | fail))
                refine sg hk (g_bsT (xs := [(((3 : Int), ((x : Int), (s.extract (x + 1) y : ByteArray))) : TkC)]) (m := 0) hk hS ?_ (hT := eT rfl) (hE := zT rfl) (hz := oT rfl)); clear hk hS a; intro w ve hS a hk
                (repeat' (first | (show wpListIn _ _ _ _ _ (_ :: _) _ _; first | (refine wx1 ?_; clear hk a; intro a hk) | (refine wx2 ?_ ?_ <;> (intro hp; clear hk a; intro a hk)) | (refine wx3 ?_; clear hk hS a; intro w b hS a hk) | (refine wx4 ?_; clear hk hS a; intro w hS a hk) | (refine wx5 ?_; clear hk hS a; intro w v hS a hk) | fail) | refine wx0 ?_ | (refine s_end hk ?_; clear hk a; intro a hk) | fail))
                rename Value => v8
                refine ⟨(y + 1, dn ++ [⟨3, x, s.extract (x + 1) y, y + 1⟩], v8), by show s.size - (y + 1) < s.size - i; omega, hk.sd, ?_, by show y + 1 ≤ s.size; omega, ?_, ?_⟩
                · rw [List.map_append]; exact hS.sb
                · rw [em, List.append_assoc]; rfl
                · show (dn ++ [_]).length ≤ y + 1; rw [List.length_append, List.length_cons, List.length_nil]; omega
              · have e := t5 hxl c39 (fun h => hfin ⟨h.1, by rw [hy4]; exact h.2⟩)
                cases good with
                | false =>
                  by_cases hyl : y < s.size
                  · have hy39 := hgood hyl
                    clear hgood t1 t2 t3 t4 t5 t6 te hfin
                    (repeat' (first | (show wpListIn _ _ _ _ _ (_ :: _) _ _; first | (refine wx1 ?_; clear hk a; intro a hk) | (refine wx2 ?_ ?_ <;> (intro hp; clear hk a; intro a hk)) | (refine wx3 ?_; clear hk hS a; intro w b hS a hk) | (refine wx4 ?_; clear hk hS a; intro w hS a hk) | (refine wx5 ?_; clear hk hS a; intro w v hS a hk) | fail) | refine wx0 ?_ | (refine s_end hk ?_; clear hk a; intro a hk) | fail))
                    refine sg hk (g_bsT (xs := [(((5 : Int), ((x : Int), (⟨#[]⟩ : ByteArray))) : TkC)]) (m := 0) hk hS ?_ (hT := eT rfl) (hE := zT rfl) (hz := oT rfl)); clear hk hS a; intro w ve hS a hk
                    (repeat' (first | (show wpListIn _ _ _ _ _ (_ :: _) _ _; first | (refine wx1 ?_; clear hk a; intro a hk) | (refine wx2 ?_ ?_ <;> (intro hp; clear hk a; intro a hk)) | (refine wx3 ?_; clear hk hS a; intro w b hS a hk) | (refine wx4 ?_; clear hk hS a; intro w hS a hk) | (refine wx5 ?_; clear hk hS a; intro w v hS a hk) | fail) | refine wx0 ?_ | (refine s_end hk ?_; clear hk a; intro a hk) | fail))
                    refine done1 hk (h := ?_)
                    rw [tn (by rw [e]; exact .inr rfl), e, List.map_append]
                    exact hS.sub (by (repeat (first | exact Sub.nil | exact Sub.refl | refine Sub.cons (by (repeat (first | exact At.here | apply At.there))) ?_)))
                  · clear hgood t1 t2 t3 t4 t5 t6 te hfin
                    (repeat' (first | (show wpListIn _ _ _ _ _ (_ :: _) _ _; first | (refine wx1 ?_; clear hk a; intro a hk) | (refine wx2 ?_ ?_ <;> (intro hp; clear hk a; intro a hk)) | (refine wx3 ?_; clear hk hS a; intro w b hS a hk) | (refine wx4 ?_; clear hk hS a; intro w hS a hk) | (refine wx5 ?_; clear hk hS a; intro w v hS a hk) | fail) | refine wx0 ?_ | (refine s_end hk ?_; clear hk a; intro a hk) | fail))
                    refine sg hk (g_bsT (xs := [(((5 : Int), ((x : Int), (⟨#[]⟩ : ByteArray))) : TkC)]) (m := 0) hk hS ?_ (hT := eT rfl) (hE := zT rfl) (hz := oT rfl)); clear hk hS a; intro w ve hS a hk
                    (repeat' (first | (show wpListIn _ _ _ _ _ (_ :: _) _ _; first | (refine wx1 ?_; clear hk a; intro a hk) | (refine wx2 ?_ ?_ <;> (intro hp; clear hk a; intro a hk)) | (refine wx3 ?_; clear hk hS a; intro w b hS a hk) | (refine wx4 ?_; clear hk hS a; intro w hS a hk) | (refine wx5 ?_; clear hk hS a; intro w v hS a hk) | fail) | refine wx0 ?_ | (refine s_end hk ?_; clear hk a; intro a hk) | fail))
                    refine done1 hk (h := ?_)
                    rw [tn (by rw [e]; exact .inr rfl), e, List.map_append]
                    exact hS.sub (by (repeat (first | exact Sub.nil | exact Sub.refl | refine Sub.cons (by (repeat (first | exact At.here | apply At.there))) ?_)))
                | true =>
                  have hyl : ¬ y < s.size := fun h => hfin ⟨h, rfl⟩
                  clear hgood t1 t2 t3 t4 t5 t6 te hfin
                  (repeat' (first | (show wpListIn _ _ _ _ _ (_ :: _) _ _; first | (refine wx1 ?_; clear hk a; intro a hk) | (refine wx2 ?_ ?_ <;> (intro hp; clear hk a; intro a hk)) | (refine wx3 ?_; clear hk hS a; intro w b hS a hk) | (refine wx4 ?_; clear hk hS a; intro w hS a hk) | (refine wx5 ?_; clear hk hS a; intro w v hS a hk) | fail) | refine wx0 ?_ | (refine s_end hk ?_; clear hk a; intro a hk) | fail))
                  refine sg hk (g_bsT (xs := [(((5 : Int), ((x : Int), (⟨#[]⟩ : ByteArray))) : TkC)]) (m := 0) hk hS ?_ (hT := eT rfl) (hE := zT rfl) (hz := oT rfl)); clear hk hS a; intro w ve hS a hk
                  (repeat' (first | (show wpListIn _ _ _ _ _ (_ :: _) _ _; first | (refine wx1 ?_; clear hk a; intro a hk) | (refine wx2 ?_ ?_ <;> (intro hp; clear hk a; intro a hk)) | (refine wx3 ?_; clear hk hS a; intro w b hS a hk) | (refine wx4 ?_; clear hk hS a; intro w hS a hk) | (refine wx5 ?_; clear hk hS a; intro w v hS a hk) | fail) | refine wx0 ?_ | (refine s_end hk ?_; clear hk a; intro a hk) | fail))
                  refine done1 hk (h := ?_)
                  rw [tn (by rw [e]; exact .inr rfl), e, List.map_append]
                  exact hS.sub (by (repeat (first | exact Sub.nil | exact Sub.refl | refine Sub.cons (by (repeat (first | exact At.here | apply At.there))) ?_)))
          · have hwd := fun w0 => rworded8_any s[x] w0
            by_cases hv : visB s[x] = true
            · have e := t4 hxl hv
              have hge := scan_ge visB s _ x (Nat.le_refl _)
              have hle := scan_le visB s _ x (Nat.le_refl _) (by omega)
              have hgt : x < scan visB s x := by
                have h1 := scan_yes (p := visB) hxl hv
                have h2 := scan_ge visB s _ (x + 1) (Nat.le_refl _)
                omega
              rw [hv] at hwd
              (repeat' (first | (show wpListIn _ _ _ _ _ (_ :: _) _ _; first | (refine wx1 ?_; clear hk a; intro a hk) | (refine wx2 ?_ ?_ <;> (intro hp; clear hk a; intro a hk)) | (refine wx3 ?_; clear hk hS a; intro w b hS a hk) | (refine wx4 ?_; clear hk hS a; intro w hS a hk) | (refine wx5 ?_; clear hk hS a; intro w v hS a hk) | fail) | refine wx0 ?_ | (refine s_end hk ?_; clear hk a; intro a hk) | fail))
              refine sg hk (g_callO hk (hf := by kernel_rfl) (hc := hwd _) (h := ?_)); clear hk a; rintro _ w ⟨rfl, hS1⟩ a hk; replace hS := hS.call0 hS1; clear hS1
              (repeat' (first | (show wpListIn _ _ _ _ _ (_ :: _) _ _; first | (refine wx1 ?_; clear hk a; intro a hk) | (refine wx2 ?_ ?_ <;> (intro hp; clear hk a; intro a hk)) | (refine wx3 ?_; clear hk hS a; intro w b hS a hk) | (refine wx4 ?_; clear hk hS a; intro w hS a hk) | (refine wx5 ?_; clear hk hS a; intro w v hS a hk) | fail) | refine wx0 ?_ | (refine s_end hk ?_; clear hk a; intro a hk) | fail))
              replace hk := Kn.kp [0, 3, 4, 5] hk
              refine wp_while (fun y : Nat => [(4, .int .i64 (y : Int))]) (fun _ => [OwT 52 (dn.map tkC) v4]) (fun y => x ≤ y ∧ y ≤ s.size ∧ scan visB s y = scan visB s x) (fun y => s.size - y) x hk (by repeat (first | exact trivial | refine ⟨rfl, ?_⟩)) hS.sb ⟨Nat.le_refl _, by omega, rfl⟩ ?_
              clear hk hS a hwd
              rintro y a w hk hS ⟨hy1, hy2, hy3⟩
              by_cases hyl : y < s.size
              · have hwd := fun w0 => rworded8_any s[y] w0
                cases hvy : visB s[y] with
                | true =>
                  rw [hvy] at hwd
                  have hst := scan_yes (p := visB) hyl hvy
                  (repeat' (first | (show wpListIn _ _ _ _ _ (_ :: _) _ _; first | (refine wx1 ?_; clear hk a; intro a hk) | (refine wx2 ?_ ?_ <;> (intro hp; clear hk a; intro a hk)) | (refine wx3 ?_; clear hk hS a; intro w b hS a hk) | (refine wx4 ?_; clear hk hS a; intro w hS a hk) | (refine wx5 ?_; clear hk hS a; intro w v hS a hk) | fail) | refine wx0 ?_ | (refine s_end hk ?_; clear hk a; intro a hk) | fail))
                  refine sg hk (g_callO hk (hf := by kernel_rfl) (hc := hwd _) (h := ?_)); clear hk a; rintro _ w ⟨rfl, hS1⟩ a hk; replace hS := hS.call0 hS1; clear hS1
                  (repeat' (first | (show wpListIn _ _ _ _ _ (_ :: _) _ _; first | (refine wx1 ?_; clear hk a; intro a hk) | (refine wx2 ?_ ?_ <;> (intro hp; clear hk a; intro a hk)) | (refine wx3 ?_; clear hk hS a; intro w b hS a hk) | (refine wx4 ?_; clear hk hS a; intro w hS a hk) | (refine wx5 ?_; clear hk hS a; intro w v hS a hk) | fail) | refine wx0 ?_ | (refine s_end hk ?_; clear hk a; intro a hk) | fail))
                  exact ⟨y + 1, by omega, hk.sd, hS.sb, by omega, hyl, by rw [← hst]; exact hy3⟩
                | false =>
                  rw [hvy] at hwd
                  have hye : scan visB s x = y := by rw [← hy3]; exact scan_no hyl (by rw [hvy]; decide)
                  rw [hye] at e hgt
                  have em := tm (by rw [e]; show (4 : Nat) ≠ 0; decide) (by rw [e]; show (4 : Nat) ≠ 5; decide)
                  rw [e] at em
                  clear hgo t1 t2 t3 t4 t5 t6 te
                  (repeat' (first | (show wpListIn _ _ _ _ _ (_ :: _) _ _; first | (refine wx1 ?_; clear hk a; intro a hk) | (refine wx2 ?_ ?_ <;> (intro hp; clear hk a; intro a hk)) | (refine wx3 ?_; clear hk hS a; intro w b hS a hk) | (refine wx4 ?_; clear hk hS a; intro w hS a hk) | (refine wx5 ?_; clear hk hS a; intro w v hS a hk) | fail) | refine wx0 ?_ | (refine s_end hk ?_; clear hk a; intro a hk) | fail))
                  refine sg hk (g_callO hk (hf := by kernel_rfl) (hc := hwd _) (h := ?_)); clear hk a; rintro _ w ⟨rfl, hS1⟩ a hk; replace hS := hS.call0 hS1; clear hS1
                  (repeat' (first | (show wpListIn _ _ _ _ _ (_ :: _) _ _; first | (refine wx1 ?_; clear hk a; intro a hk) | (refine wx2 ?_ ?_ <;> (intro hp; clear hk a; intro a hk)) | (refine wx3 ?_; clear hk hS a; intro w b hS a hk) | (refine wx4 ?_; clear hk hS a; intro w hS a hk) | (refine wx5 ?_; clear hk hS a; intro w v hS a hk) | fail) | refine wx0 ?_ | (refine s_end hk ?_; clear hk a; intro a hk) | fail))
                  rw [show ((x : Int)).toNat = x by omega, show ((y : Int)).toNat = y by omega] at hk
                  refine sg hk (g_bsT (xs := [(((4 : Int), ((x : Int), (s.extract x y : ByteArray))) : TkC)]) (m := 0) hk hS ?_ (hT := eT rfl) (hE := zT rfl) (hz := oT rfl)); clear hk hS a; intro w ve hS a hk
                  (repeat' (first | (show wpListIn _ _ _ _ _ (_ :: _) _ _; first | (refine wx1 ?_; clear hk a; intro a hk) | (refine wx2 ?_ ?_ <;> (intro hp; clear hk a; intro a hk)) | (refine wx3 ?_; clear hk hS a; intro w b hS a hk) | (refine wx4 ?_; clear hk hS a; intro w hS a hk) | (refine wx5 ?_; clear hk hS a; intro w v hS a hk) | fail) | refine wx0 ?_ | (refine s_end hk ?_; clear hk a; intro a hk) | fail))
                  rename Value => v8
                  refine ⟨(y, dn ++ [⟨4, x, s.extract x y, y⟩], v8), by show s.size - (y) < s.size - i; omega, hk.sd, ?_, by show y ≤ s.size; omega, ?_, ?_⟩
                  · rw [List.map_append]; exact hS.sb
                  · rw [em, List.append_assoc]; rfl
                  · show (dn ++ [_]).length ≤ y; rw [List.length_append, List.length_cons, List.length_nil]; omega
              · have hye : scan visB s x = y := by rw [← hy3]; exact scan_end hyl
                rw [hye] at e hgt
                have em := tm (by rw [e]; show (4 : Nat) ≠ 0; decide) (by rw [e]; show (4 : Nat) ≠ 5; decide)
                rw [e] at em
                clear hgo t1 t2 t3 t4 t5 t6 te
                (repeat' (first | (show wpListIn _ _ _ _ _ (_ :: _) _ _; first | (refine wx1 ?_; clear hk a; intro a hk) | (refine wx2 ?_ ?_ <;> (intro hp; clear hk a; intro a hk)) | (refine wx3 ?_; clear hk hS a; intro w b hS a hk) | (refine wx4 ?_; clear hk hS a; intro w hS a hk) | (refine wx5 ?_; clear hk hS a; intro w v hS a hk) | fail) | refine wx0 ?_ | (refine s_end hk ?_; clear hk a; intro a hk) | fail))
                rw [show ((x : Int)).toNat = x by omega, show ((y : Int)).toNat = y by omega] at hk
                refine sg hk (g_bsT (xs := [(((4 : Int), ((x : Int), (s.extract x y : ByteArray))) : TkC)]) (m := 0) hk hS ?_ (hT := eT rfl) (hE := zT rfl) (hz := oT rfl)); clear hk hS a; intro w ve hS a hk
                (repeat' (first | (show wpListIn _ _ _ _ _ (_ :: _) _ _; first | (refine wx1 ?_; clear hk a; intro a hk) | (refine wx2 ?_ ?_ <;> (intro hp; clear hk a; intro a hk)) | (refine wx3 ?_; clear hk hS a; intro w b hS a hk) | (refine wx4 ?_; clear hk hS a; intro w hS a hk) | (refine wx5 ?_; clear hk hS a; intro w v hS a hk) | fail) | refine wx0 ?_ | (refine s_end hk ?_; clear hk a; intro a hk) | fail))
                rename Value => v8
                refine ⟨(y, dn ++ [⟨4, x, s.extract x y, y⟩], v8), by show s.size - (y) < s.size - i; omega, hk.sd, ?_, by show y ≤ s.size; omega, ?_, ?_⟩
                · rw [List.map_append]; exact hS.sb
                · rw [em, List.append_assoc]; rfl
                · show (dn ++ [_]).length ≤ y; rw [List.length_append, List.length_cons, List.length_nil]; omega
            · have e := t6 hxl c40 c41 c39 hv
              have hvf : visB s[x] = false := by simpa using hv
              rw [hvf] at hwd
              (repeat' (first | (show wpListIn _ _ _ _ _ (_ :: _) _ _; first | (refine wx1 ?_; clear hk a; intro a hk) | (refine wx2 ?_ ?_ <;> (intro hp; clear hk a; intro a hk)) | (refine wx3 ?_; clear hk hS a; intro w b hS a hk) | (refine wx4 ?_; clear hk hS a; intro w hS a hk) | (refine wx5 ?_; clear hk hS a; intro w v hS a hk) | fail) | refine wx0 ?_ | (refine s_end hk ?_; clear hk a; intro a hk) | fail))
              refine sg hk (g_callO hk (hf := by kernel_rfl) (hc := hwd _) (h := ?_)); clear hk a; rintro _ w ⟨rfl, hS1⟩ a hk; replace hS := hS.call0 hS1; clear hS1
              (repeat' (first | (show wpListIn _ _ _ _ _ (_ :: _) _ _; first | (refine wx1 ?_; clear hk a; intro a hk) | (refine wx2 ?_ ?_ <;> (intro hp; clear hk a; intro a hk)) | (refine wx3 ?_; clear hk hS a; intro w b hS a hk) | (refine wx4 ?_; clear hk hS a; intro w hS a hk) | (refine wx5 ?_; clear hk hS a; intro w v hS a hk) | fail) | refine wx0 ?_ | (refine s_end hk ?_; clear hk a; intro a hk) | fail))
              refine sg hk (g_bsT (xs := [(((5 : Int), ((x : Int), (⟨#[]⟩ : ByteArray))) : TkC)]) (m := 0) hk hS ?_ (hT := eT rfl) (hE := zT rfl) (hz := oT rfl)); clear hk hS a; intro w ve hS a hk
              (repeat' (first | (show wpListIn _ _ _ _ _ (_ :: _) _ _; first | (refine wx1 ?_; clear hk a; intro a hk) | (refine wx2 ?_ ?_ <;> (intro hp; clear hk a; intro a hk)) | (refine wx3 ?_; clear hk hS a; intro w b hS a hk) | (refine wx4 ?_; clear hk hS a; intro w hS a hk) | (refine wx5 ?_; clear hk hS a; intro w v hS a hk) | fail) | refine wx0 ?_ | (refine s_end hk ?_; clear hk a; intro a hk) | fail))
              refine done1 hk (h := ?_)
              rw [tn (by rw [e]; exact .inr rfl), e, List.map_append]
              exact hS.sub (by (repeat (first | exact Sub.nil | exact Sub.refl | refine Sub.cons (by (repeat (first | exact At.here | apply At.there))) ?_)))
    · have e := te hxl
      have hxe : x = s.size := by omega
      (repeat' (first | (show wpListIn _ _ _ _ _ (_ :: _) _ _; first | (refine wx1 ?_; clear hk a; intro a hk) | (refine wx2 ?_ ?_ <;> (intro hp; clear hk a; intro a hk)) | (refine wx3 ?_; clear hk hS a; intro w b hS a hk) | (refine wx4 ?_; clear hk hS a; intro w hS a hk) | (refine wx5 ?_; clear hk hS a; intro w v hS a hk) | fail) | refine wx0 ?_ | (refine s_end hk ?_; clear hk a; intro a hk) | fail))
      refine sg hk (g_bsT (xs := [(((0 : Int), ((s.size : Int), (⟨#[]⟩ : ByteArray))) : TkC)]) (m := 0) hk hS ?_ (hT := eT rfl) (hE := zT rfl) (hz := oT rfl)); clear hk hS a; intro w ve hS a hk
      (repeat' (first | (show wpListIn _ _ _ _ _ (_ :: _) _ _; first | (refine wx1 ?_; clear hk a; intro a hk) | (refine wx2 ?_ ?_ <;> (intro hp; clear hk a; intro a hk)) | (refine wx3 ?_; clear hk hS a; intro w b hS a hk) | (refine wx4 ?_; clear hk hS a; intro w hS a hk) | (refine wx5 ?_; clear hk hS a; intro w v hS a hk) | fail) | refine wx0 ?_ | (refine s_end hk ?_; clear hk a; intro a hk) | fail))
      refine done1 hk (h := ?_)
      rw [tn (by rw [e]; exact .inl rfl), e, List.map_append]
      exact hS.sub (by (repeat (first | exact Sub.nil | exact Sub.refl | refine Sub.cons (by (repeat (first | exact At.here | apply At.there))) ?_)))
end Go.Proofs.YtipdgobplfkipaaGreatDoor
namespace Go.Proofs.YtipdgobplfkipaaGreatDoor

abbrev TK := Nat × ByteArray
def bare (l : List Tok) : List TK := l.map (fun t => (t.kind, t.txt))
inductive Rl (α : Type) where
  | ok (x : α) (r : List TK)
  | no (r : List TK) (e : Int)
mutual
def viewL : Nat → List TK → Nat → Rl Tree
  | 0, l, _ => .no l 0
  | f + 1, l, op => match l with
    | [] => .no l 2
    | (k, x) :: r =>
      if k = 3 then .ok (.mk 1 ⟨#[]⟩ ⟨#[]⟩ x [] [] [] o0 []) r
      else if k = 1 then
        if 40 ≤ op then .no l 7
        else match r with
          | [] => .no r 2
          | (k', x') :: q => if k' = 4 ∧ nameS x' = true then elemL f q (op + 1) ⟨2, x', ⟨#[]⟩, [], [], [], o0⟩ [] [] else .no r 2
      else .no l 2
def elemL : Nat → List TK → Nat → Itm → List ByteArray → List Tree → Rl Tree
  | 0, l, _, _, _, _ => .no l 0
  | f + 1, l, op, n, seen, kids => match l with
    | [] => .no l 2
    | (k, x) :: r =>
      if k = 2 then .ok (n.tree kids) r
      else if k = 4 then
        match itemF n x seen with
        | some (m, more) => elemL f r op m more kids
        | none => .no l 2
      else
        match viewL f l op with
        | .ok t q => elemL f q op n seen (kids ++ [t])
        | .no a e => .no a e
end
def RdT (s : ByteArray) (a : Rd Tree) (b : Rl Tree) : Prop := match a with
  | .ok t j => b = .ok t (bare (toksL s j))
  | .no p e => ∃ r, b = .no r e ∧ (e ≠ 0 → ∃ q, (tokF s q).at_ = p ∧ r = bare (toksL s q))
theorem bare_end {s : ByteArray} {i : Nat} (h : (tokF s i).kind = 0 ∨ (tokF s i).kind = 5) : bare (toksL s i) = [((tokF s i).kind, (tokF s i).txt)] := by rw [toks_end h]; rfl
theorem bare_more {s : ByteArray} {i : Nat} (h0 : (tokF s i).kind ≠ 0) (h5 : (tokF s i).kind ≠ 5) : bare (toksL s i) = ((tokF s i).kind, (tokF s i).txt) :: bare (toksL s (tokF s i).till) := by rw [toks_more h0 h5]; rfl
theorem bare_ne (s : ByteArray) (i : Nat) : ∃ r, bare (toksL s i) = ((tokF s i).kind, (tokF s i).txt) :: r := by
  obtain ⟨r, hr⟩ := toks_ne s i
  exact ⟨bare r, by rw [hr]; rfl⟩
theorem view_toks (s : ByteArray) : ∀ (f : Nat), (∀ (i op : Nat), RdT s (viewF s f i op) (viewL f (bare (toksL s i)) op)) ∧
    (∀ (i op : Nat) (n : Itm) (seen : List ByteArray) (kids : List Tree), RdT s (elemF s f i op n seen kids) (elemL f (bare (toksL s i)) op n seen kids))
  | 0 => ⟨fun i op => by simp only [viewF, RdT]; exact ⟨_, by rw [viewL], fun h => absurd rfl h⟩, fun i op n seen kids => by simp only [elemF, RdT]; exact ⟨_, by rw [elemL], fun h => absurd rfl h⟩⟩
  | f + 1 => by
    obtain ⟨hv, he⟩ := view_toks s f
    refine ⟨fun i op => ?_, fun i op n seen kids => ?_⟩
    · obtain ⟨r, hr⟩ := bare_ne s i
      have hlong : bare (toksL s i) = ((tokF s i).kind, (tokF s i).txt) :: r := hr
      simp only [viewF]
      rw [hlong]
      simp only [viewL]
      by_cases h3 : (tokF s i).kind = 3
      · rw [if_pos h3, if_pos h3]
        rw [bare_more (by omega) (by omega)] at hr
        injection hr with _ hr
        rw [← hr]; rfl
      · rw [if_neg h3, if_neg h3]
        by_cases h1 : (tokF s i).kind = 1
        · rw [if_pos h1, if_pos h1]
          by_cases ho : 40 ≤ op
          · rw [if_pos ho, if_pos ho]
            exact ⟨_, rfl, fun _ => ⟨i, rfl, hlong.symm⟩⟩
          · rw [if_neg ho, if_neg ho]
            rw [bare_more (by omega) (by omega)] at hr
            injection hr with _ hr
            obtain ⟨q, hq⟩ := bare_ne s (tokF s i).till
            rw [← hr, hq]
            simp only
            by_cases hg : (tokF s (tokF s i).till).kind = 4 ∧ nameS (tokF s (tokF s i).till).txt = true
            · rw [if_pos hg, if_pos hg]
              rw [bare_more (by omega) (by omega)] at hq
              injection hq with _ hq
              rw [← hq]
              exact he _ _ _ _ _
            · rw [if_neg hg, if_neg hg]
              exact ⟨_, rfl, fun _ => ⟨(tokF s i).till, rfl, hq.symm⟩⟩
        · rw [if_neg h1, if_neg h1]
          exact ⟨_, rfl, fun _ => ⟨i, rfl, hlong.symm⟩⟩
    · obtain ⟨r, hr⟩ := bare_ne s i
      have hlong : bare (toksL s i) = ((tokF s i).kind, (tokF s i).txt) :: r := hr
      simp only [elemF]
      rw [hlong]
      simp only [elemL]
      by_cases h2 : (tokF s i).kind = 2
      · rw [if_pos h2, if_pos h2]
        rw [bare_more (by omega) (by omega)] at hr
        injection hr with _ hr
        rw [← hr]; rfl
      · rw [if_neg h2, if_neg h2]
        by_cases h4 : (tokF s i).kind = 4
        · rw [if_pos h4, if_pos h4]
          rw [bare_more (by omega) (by omega)] at hr
          injection hr with _ hr
          cases hit : itemF n (tokF s i).txt seen with
          | none => exact ⟨_, rfl, fun _ => ⟨i, rfl, hlong.symm⟩⟩
          | some y =>
            obtain ⟨m, more⟩ := y
            simp only
            rw [← hr]
            exact he _ _ _ _ _
        · rw [if_neg h4, if_neg h4, ← hlong]
          have h1 := hv i op
          cases hvf : viewF s f i op with
          | ok t j =>
            rw [hvf] at h1
            simp only [RdT] at h1
            rw [h1]
            exact he _ _ _ _ _
          | no a e =>
            rw [hvf] at h1
            obtain ⟨r', h2, h3⟩ := h1
            rw [h2]
            exact ⟨r', rfl, h3⟩
theorem view_short : ∀ (f : Nat), (∀ (l : List TK) (op : Nat) (t : Tree) (r : List TK), viewL f l op = .ok t r → r.length < l.length) ∧
    (∀ (l : List TK) (op : Nat) (n : Itm) (seen : List ByteArray) (kids : List Tree) (t : Tree) (r : List TK), elemL f l op n seen kids = .ok t r → r.length < l.length)
  | 0 => ⟨fun l op t r h => by simp [viewL] at h, fun l op n seen kids t r h => by simp [elemL] at h⟩
  | f + 1 => by
    obtain ⟨hv, he⟩ := view_short f
    refine ⟨fun l op t r h => ?_, fun l op n seen kids t r h => ?_⟩
    · match l with
      | [] => simp [viewL] at h
      | (k, x) :: r0 =>
        simp only [viewL] at h
        split at h
        · injection h with _ h; subst h; simp
        · split at h
          · split at h
            · cases h
            · match r0, h with
              | [], h => simp at h
              | (k', x') :: q, h =>
                simp only at h
                split at h
                · have := he _ _ _ _ _ _ _ h
                  simp only [List.length_cons]; omega
                · cases h
          · cases h
    · match l with
      | [] => simp [elemL] at h
      | (k, x) :: r0 =>
        simp only [elemL] at h
        split at h
        · injection h with _ h; subst h; simp
        · split at h
          · split at h
            · have := he _ _ _ _ _ _ _ h
              simp only [List.length_cons]; omega
            · cases h
          · split at h
            · rename_i t' q hq
              have h1 := hv _ _ _ _ hq
              have h2 := he _ _ _ _ _ _ _ h
              omega
            · cases h
theorem view_fuel : ∀ (f : Nat), (∀ (l : List TK) (op : Nat), l.length ≤ f → 1 ≤ f → viewL (f + 1) l op = viewL f l op ∧ ∀ r e, viewL f l op = .no r e → e ≠ 0) ∧
    (∀ (l : List TK) (op : Nat) (n : Itm) (seen : List ByteArray) (kids : List Tree), l.length + 1 ≤ f → elemL (f + 1) l op n seen kids = elemL f l op n seen kids ∧ ∀ r e, elemL f l op n seen kids = .no r e → e ≠ 0)
  | 0 => ⟨fun l op _ h => absurd h (by omega), fun l op n seen kids h => absurd h (by omega)⟩
  | f + 1 => by
    obtain ⟨hv, he⟩ := view_fuel f
    refine ⟨fun l op hl _ => ?_, fun l op n seen kids hl => ?_⟩
    · match l with
      | [] => exact ⟨by simp [viewL], fun r e h => by simp only [viewL] at h; injection h with _ h; rw [← h]; decide⟩
      | (k, x) :: r0 =>
        simp only [viewL]
        by_cases h3 : k = 3
        · rw [if_pos h3, if_pos h3]; exact ⟨rfl, fun r e h => by cases h⟩
        · rw [if_neg h3, if_neg h3]
          by_cases h1 : k = 1
          · rw [if_pos h1, if_pos h1]
            by_cases ho : 40 ≤ op
            · rw [if_pos ho, if_pos ho]; exact ⟨rfl, fun r e h => by injection h with _ h; rw [← h]; decide⟩
            · rw [if_neg ho, if_neg ho]
              match r0 with
              | [] => exact ⟨rfl, fun r e h => by injection h with _ h; rw [← h]; decide⟩
              | (k', x') :: q =>
                simp only
                by_cases hg : k' = 4 ∧ nameS x' = true
                · rw [if_pos hg, if_pos hg]
                  simp only [List.length_cons] at hl
                  exact he _ _ _ _ _ (by omega)
                · rw [if_neg hg, if_neg hg]; exact ⟨rfl, fun r e h => by injection h with _ h; rw [← h]; decide⟩
          · rw [if_neg h1, if_neg h1]; exact ⟨rfl, fun r e h => by injection h with _ h; rw [← h]; decide⟩
    · match l with
      | [] => exact ⟨by simp [elemL], fun r e h => by simp only [elemL] at h; injection h with _ h; rw [← h]; decide⟩
      | (k, x) :: r0 =>
        simp only [elemL]
        by_cases h2 : k = 2
        · rw [if_pos h2, if_pos h2]; exact ⟨rfl, fun r e h => by cases h⟩
        · rw [if_neg h2, if_neg h2]
          simp only [List.length_cons] at hl
          by_cases h4 : k = 4
          · rw [if_pos h4, if_pos h4]
            cases hit : itemF n x seen with
            | none => exact ⟨rfl, fun r e h => by injection h with _ h; rw [← h]; decide⟩
            | some y =>
              obtain ⟨m, more⟩ := y
              exact he _ _ _ _ _ (by omega)
          · rw [if_neg h4, if_neg h4]
            obtain ⟨e1, e2⟩ := hv ((k, x) :: r0) op (by simp only [List.length_cons]; omega) (by omega)
            rw [e1]
            cases hvl : viewL f ((k, x) :: r0) op with
            | ok t q =>
              have := (view_short f).1 _ _ _ _ hvl
              simp only [List.length_cons] at this
              exact he _ _ _ _ _ (by omega)
            | no a e => exact ⟨rfl, fun r e' h => by injection h with _ h; rw [← h]; exact e2 _ _ hvl⟩
theorem view_big {l : List TK} {op : Nat} : ∀ (f g : Nat), l.length ≤ f → 1 ≤ f → viewL (f + g) l op = viewL f l op
  | f, 0, _, _ => rfl
  | f, g + 1, h1, h2 => by
    rw [← Nat.add_assoc, ((view_fuel (f + g)).1 l op (by omega) (by omega)).1]
    exact view_big f g h1 h2
theorem toks_len (s : ByteArray) : ∀ (n i : Nat), s.size - i ≤ n → (toksL s i).length ≤ s.size - i + 1
  | n, i, hn => by
    by_cases h : (tokF s i).kind = 0 ∨ (tokF s i).kind = 5
    · rw [toks_end h]; simp
    · have h0 : (tokF s i).kind ≠ 0 := fun e => h (.inl e)
      have h5 : (tokF s i).kind ≠ 5 := fun e => h (.inr e)
      obtain ⟨t1, t2⟩ := tok_till h0 h5
      rw [toks_more h0 h5, List.length_cons]
      match n, hn with
      | 0, hn => omega
      | n + 1, hn =>
        have := toks_len s n (tokF s i).till (by omega)
        omega
def parseL (l : List TK) : Option Tree × Int := match viewL (l.length + 1) l 0 with
  | .ok t r => match r with
    | (0, _) :: _ => (some t, 0)
    | _ => (none, 2)
  | .no _ e => (none, e)
def Rd.bare : Rd Tree → Option Tree × Int
  | .ok t _ => (some t, 0)
  | .no _ e => (none, e)
theorem parse_toks {s : ByteArray} (h : s.size ≤ 20000) : (parseF s).bare = parseL (bare (toksL s 0)) := by
  have hl := toks_len s s.size 0 (by omega)
  have hlb : (bare (toksL s 0)).length ≤ s.size + 1 := by simp only [bare, List.length_map]; omega
  have hf : viewL (2 * s.size + 2) (bare (toksL s 0)) 0 = viewL ((bare (toksL s 0)).length + 1) (bare (toksL s 0)) 0 := by
    have := view_big (l := bare (toksL s 0)) (op := 0) ((bare (toksL s 0)).length + 1) (2 * s.size + 2 - ((bare (toksL s 0)).length + 1)) (by omega) (by omega)
    rw [← this]; congr 1; omega
  have h1 := (view_toks s (2 * s.size + 2)).1 0 0
  unfold parseF parseL
  rw [if_neg (by omega), ← hf]
  cases hv : viewF s (2 * s.size + 2) 0 0 with
  | ok t j =>
    rw [hv] at h1
    simp only [RdT] at h1
    rw [h1]
    simp only
    obtain ⟨r, hr⟩ := bare_ne s j
    rw [hr]
    by_cases hk : (tokF s j).kind = 0
    · rw [if_pos hk, hk]; rfl
    · rw [if_neg hk]
      cases hk2 : (tokF s j).kind with
      | zero => exact absurd hk2 hk
      | succ k => rfl
  | no p e =>
    rw [hv] at h1
    obtain ⟨r, h2, _⟩ := h1
    rw [h2]; rfl
end Go.Proofs.YtipdgobplfkipaaGreatDoor
namespace Go.Proofs.YtipdgobplfkipaaGreatDoor

theorem dr_head {s : ByteArray} {i : Nat} {c : UInt8} {r : List UInt8} (h : s.data.toList.drop i = c :: r) : ∃ hi : i < s.size, s[i] = c ∧ s.data.toList.drop (i + 1) = r := by
  have hi : i < s.data.toList.length := by
    rcases Nat.lt_or_ge i s.data.toList.length with hl | hl
    · exact hl
    · rw [List.drop_eq_nil_of_le hl] at h; cases h
  have hi' : i < s.size := by simpa using hi
  refine ⟨hi', ?_, ?_⟩
  · have h1 : (s.data.toList.drop i)[0]? = some c := by rw [h]; rfl
    rw [List.getElem?_drop] at h1
    have h2 := byte_at hi'
    rw [Nat.add_zero] at h1
    rw [h1] at h2
    injection h2 with h2
    exact h2.symm
  · rw [← List.tail_drop, h]; rfl
theorem dr_nil {s : ByteArray} {i : Nat} (h : s.data.toList.drop i = []) : ¬ i < s.size := by
  rw [List.drop_eq_nil_iff] at h
  have : s.data.toList.length = s.size := by simp
  omega
theorem dr_app {s : ByteArray} {i : Nat} : ∀ {a b : List UInt8}, s.data.toList.drop i = a ++ b → s.data.toList.drop (i + a.length) = b := by
  intro a b h
  rw [← List.drop_drop, h, List.drop_left]
theorem scan_run (p : UInt8 → Bool) (s : ByteArray) : ∀ (mid post : List UInt8) (i : Nat), s.data.toList.drop i = mid ++ post → mid.all p = true → (∀ c r, post = c :: r → p c = false) → scan p s i = i + mid.length
  | [], post, i, h, _, hp => by
    match post with
    | [] => rw [scan_end (dr_nil h)]; rfl
    | c :: r =>
      obtain ⟨hi, hc, _⟩ := dr_head h
      rw [scan_no hi (by rw [hc, hp c r rfl]; decide)]; rfl
  | c :: mid, post, i, h, hm, hp => by
    obtain ⟨hi, hc, hr⟩ := dr_head h
    rw [List.all_cons, Bool.and_eq_true] at hm
    rw [scan_yes hi (by rw [hc]; exact hm.1), scan_run p s mid post (i + 1) hr hm.2 hp, List.length_cons]
    omega
theorem ba_eq {a b : ByteArray} (h : a.data.toList = b.data.toList) : a = b := ByteArray.ext (Array.ext' h)
theorem ext_mid {s x : ByteArray} {i : Nat} {post : List UInt8} (h : s.data.toList.drop i = x.data.toList ++ post) : s.extract i (i + x.size) = x := by
  apply ba_eq
  have e : (s.extract i (i + x.size)).data.toList = (s.data.toList.take (i + x.size)).drop i := by simp [ByteArray.data_extract, List.drop_take]
  rw [e, List.drop_take, h]
  have : i + x.size - i = x.data.toList.length := by simp
  rw [this, List.take_left]
def spL : TK → List UInt8
  | (1, _) => [40]
  | (2, _) => [41]
  | (3, x) => 39 :: x.data.toList ++ [39]
  | (4, x) => x.data.toList
  | _ => []
def TkOk : TK → Prop
  | (0, x) => x = ⟨#[]⟩
  | (1, x) => x = ⟨#[]⟩
  | (2, x) => x = ⟨#[]⟩
  | (3, x) => x.data.toList.all nqB = true ∧ x.data.toList.all priL = true
  | (4, x) => x.data.toList ≠ [] ∧ x.data.toList.all visB = true
  | _ => False
def SpOk : List (Nat × TK) → Prop
  | [] => False
  | [(_, t)] => t = (0, ⟨#[]⟩)
  | (_, t) :: (n, u) :: r => t.1 ≠ 0 ∧ TkOk t ∧ (t.1 = 4 → u.1 = 4 → 1 ≤ n) ∧ SpOk ((n, u) :: r)
def spAll : List (Nat × TK) → List UInt8
  | [] => []
  | (n, t) :: r => List.replicate n 32 ++ (spL t ++ spAll r)
theorem blk_rep (n : Nat) : (List.replicate n (32 : UInt8)).all blkB = true := by
  induction n with
  | zero => rfl
  | succ n ih => rw [List.replicate_succ, List.all_cons, ih]; rfl
theorem vis_not {c : UInt8} (h : visB c = true) : blkB c = false ∧ c.toNat ≠ 40 ∧ c.toNat ≠ 41 ∧ c.toNat ≠ 39 := by
  unfold visB at h
  unfold blkB
  rw [decide_eq_true_eq] at h
  exact ⟨by rw [decide_eq_false]; omega, by omega, by omega, by omega⟩
theorem tok_spell {s : ByteArray} {i n : Nat} {t : TK} {post : List UInt8} (h : s.data.toList.drop i = List.replicate n 32 ++ (spL t ++ post)) (ht : TkOk t) (h0 : t.1 ≠ 0) (hp : t.1 = 4 → ∀ c r, post = c :: r → visB c = false) :
    ((tokF s i).kind, (tokF s i).txt) = t ∧ s.data.toList.drop (tokF s i).till = post := by
  obtain ⟨k, x⟩ := t
  have hb := dr_app h
  rw [List.length_replicate] at hb
  have hsc : ∀ c r, spL (k, x) ++ post = c :: r → blkB c = false → scan blkB s i = i + n := fun c r he hc => by
    have := scan_run blkB s (List.replicate n 32) (spL (k, x) ++ post) i h (blk_rep n) (fun c' r' he' => by rw [he] at he'; injection he' with e _; rw [← e]; exact hc)
    rw [this, List.length_replicate]
  match k, ht, h0, hp, hb, hsc with
  | 1, ht, _, _, hb, hsc =>
    obtain ⟨hi, hc, hr⟩ := dr_head (r := post) hb
    have e := hsc 40 post rfl rfl
    have et : tokF s i = ⟨1, i + n, ⟨#[]⟩, i + n + 1⟩ := by
      unfold tokF; simp only [e, hi, dif_pos, hc]; rfl
    rw [et]
    exact ⟨by rw [show x = _ from ht], hr⟩
  | 2, ht, _, _, hb, hsc =>
    obtain ⟨hi, hc, hr⟩ := dr_head (r := post) hb
    have e := hsc 41 post rfl rfl
    have et : tokF s i = ⟨2, i + n, ⟨#[]⟩, i + n + 1⟩ := by
      unfold tokF; simp only [e, hi, dif_pos, hc]; rfl
    rw [et]
    exact ⟨by rw [show x = _ from ht], hr⟩
  | 3, ht, _, _, hb, hsc =>
    have hb' : s.data.toList.drop (i + n) = 39 :: (x.data.toList ++ 39 :: post) := by rw [hb]; simp [spL]
    obtain ⟨hi, hc, hr⟩ := dr_head hb'
    have e := hsc 39 (x.data.toList ++ 39 :: post) (by simp [spL]) rfl
    have e2 := scan_run nqB s x.data.toList (39 :: post) (i + n + 1) hr ht.1 (fun c r he => by injection he with e _; rw [← e]; rfl)
    have hlen : x.data.toList.length = x.size := by simp
    rw [hlen] at e2
    have hx := ext_mid hr
    have hr2 := dr_app hr
    rw [hlen] at hr2
    obtain ⟨hi2, _, hr3⟩ := dr_head hr2
    have et : tokF s i = ⟨3, i + n, x, i + n + 1 + x.size + 1⟩ := by
      unfold tokF; simp only [e, hi, dif_pos, hc]
      rw [if_neg (by decide), if_neg (by decide), if_pos (by decide), if_pos ⟨by rw [e2]; exact hi2, by rw [e2, hx]; exact ht.2⟩]
      rw [e2, hx]
    rw [et]
    exact ⟨rfl, hr3⟩
  | 4, ht, _, hp, hb, hsc =>
    have hb' : s.data.toList.drop (i + n) = x.data.toList ++ post := hb
    obtain ⟨hne, hvis⟩ := ht
    have hlen : x.data.toList.length = x.size := by simp
    have e2 := scan_run visB s x.data.toList post (i + n) hb' hvis (hp rfl)
    have hx := ext_mid hb'
    have hr2 := dr_app hb'
    rw [hlen] at e2 hr2
    match hxl : x.data.toList, hne with
    | c :: r, _ =>
      rw [hxl] at hb' hvis
      rw [List.all_cons, Bool.and_eq_true] at hvis
      obtain ⟨v1, v2, v3, v4⟩ := vis_not hvis.1
      obtain ⟨hi, hc, _⟩ := dr_head hb'
      have e := hsc c (r ++ post) (by show x.data.toList ++ post = _; rw [hxl]; rfl) v1
      have et : tokF s i = ⟨4, i + n, x, i + n + x.size⟩ := by
        unfold tokF; simp only [e, hi, dif_pos, hc]
        rw [if_neg v2, if_neg v3, if_neg v4, if_pos hvis.1, e2, hx]
      rw [et]
      exact ⟨rfl, hr2⟩
theorem toks_spell (s : ByteArray) : ∀ (L : List (Nat × TK)) (i : Nat), SpOk L → s.data.toList.drop i = spAll L → bare (toksL s i) = L.map (·.2)
  | [], _, h, _ => h.elim
  | [(n, t)], i, h, hd => by
    have ht : t = (0, ⟨#[]⟩) := h
    subst ht
    have hd' : s.data.toList.drop i = List.replicate n 32 ++ [] := by rw [hd]; simp [spAll, spL]
    have e := scan_run blkB s (List.replicate n 32) [] i hd' (blk_rep n) (fun c r he => by cases he)
    have hb := dr_app hd'
    rw [List.length_replicate] at e hb
    have et : tokF s i = ⟨0, s.size, ⟨#[]⟩, s.size⟩ := by
      unfold tokF; simp only [e]; rw [dif_neg (dr_nil hb)]
    rw [bare_end (by rw [et]; exact .inl rfl), et]; rfl
  | (n, t) :: (m, u) :: r, i, h, hd => by
    obtain ⟨h0, ht, hw, hrest⟩ := h
    have hd' : s.data.toList.drop i = List.replicate n 32 ++ (spL t ++ spAll ((m, u) :: r)) := hd
    have hu : TkOk u := by
      cases r with
      | nil => have : u = (0, ⟨#[]⟩) := hrest; subst this; rfl
      | cons y r => exact hrest.2.1
    have hp : t.1 = 4 → ∀ c q, spAll ((m, u) :: r) = c :: q → visB c = false := fun h4 c q he => by
      rw [spAll] at he
      cases m with
      | succ m => rw [List.replicate_succ] at he; injection he with e _; rw [← e]; rfl
      | zero =>
        have hu4 : u.1 ≠ 4 := fun e => absurd (hw h4 e) (by omega)
        obtain ⟨ku, xu⟩ := u
        rw [List.replicate_zero, List.nil_append] at he
        match ku, hu, hu4, he, hrest with
        | 0, hu, _, he, hrest =>
          cases r with
          | nil => simp [spL, spAll] at he
          | cons y r => exact absurd rfl hrest.1
        | 1, _, _, he, _ => injection he with e _; rw [← e]; rfl
        | 2, _, _, he, _ => injection he with e _; rw [← e]; rfl
        | 3, _, _, he, _ => injection he with e _; rw [← e]; rfl
        | 4, _, hu4, _, _ => exact absurd rfl hu4
        | k + 5, hu, _, _, _ => exact hu.elim
    obtain ⟨e1, e2⟩ := tok_spell hd' ht h0 hp
    have k0 : (tokF s i).kind ≠ 0 := by rw [show (tokF s i).kind = t.1 from congrArg Prod.fst e1]; exact h0
    have k5 : (tokF s i).kind ≠ 5 := by
      rw [show (tokF s i).kind = t.1 from congrArg Prod.fst e1]
      intro e
      obtain ⟨k, x⟩ := t
      have : k = 5 := e
      subst this
      exact ht.elim
    rw [bare_more k0 k5, toks_spell s ((m, u) :: r) _ hrest e2, e1]
    rfl
theorem scan_all (p : UInt8 → Bool) (s : ByteArray) : ∀ (n i : Nat), s.size - i ≤ n → ((s.data.toList.drop i).take (scan p s i - i)).all p = true
  | 0, i, hn => by rw [scan_end (by omega), Nat.sub_self, List.take_zero]; rfl
  | n + 1, i, hn => by
    by_cases hi : i < s.size
    · by_cases hp : p s[i] = true
      · rw [scan_yes hi hp]
        have h1 := scan_ge p s _ (i + 1) (Nat.le_refl _)
        have e : s.data.toList.drop i = s[i] :: s.data.toList.drop (i + 1) := by
          have hl : i < s.data.toList.length := by simpa using hi
          rw [List.drop_eq_getElem_cons hl]
          congr 1
        rw [e, show scan p s (i + 1) - i = (scan p s (i + 1) - (i + 1)) + 1 by omega, List.take_succ_cons, List.all_cons, hp, scan_all p s n (i + 1) (by omega)]
        rfl
      · rw [scan_no hi hp, Nat.sub_self, List.take_zero]; rfl
    · rw [scan_end hi, Nat.sub_self, List.take_zero]; rfl
theorem ext_all (p : UInt8 → Bool) (s : ByteArray) (i : Nat) : (s.extract i (scan p s i)).data.toList.all p = true := by
  have e : (s.extract i (scan p s i)).data.toList = (s.data.toList.drop i).take (scan p s i - i) := by simp [ByteArray.data_extract]
  rw [e]; exact scan_all p s _ i (Nat.le_refl _)
theorem tok_ok {s : ByteArray} {i : Nat} (h5 : (tokF s i).kind ≠ 5) : TkOk ((tokF s i).kind, (tokF s i).txt) := by
  by_cases hj : scan blkB s i < s.size
  · by_cases n1 : s[scan blkB s i].toNat = 40
    · have e : tokF s i = ⟨1, scan blkB s i, ⟨#[]⟩, scan blkB s i + 1⟩ := by unfold tokF; simp only [hj, dif_pos]; rw [if_pos n1]
      rw [e]; exact rfl
    · by_cases n2 : s[scan blkB s i].toNat = 41
      · have e : tokF s i = ⟨2, scan blkB s i, ⟨#[]⟩, scan blkB s i + 1⟩ := by unfold tokF; simp only [hj, dif_pos]; rw [if_neg n1, if_pos n2]
        rw [e]; exact rfl
      · by_cases n3 : s[scan blkB s i].toNat = 39
        · by_cases n4 : scan nqB s (scan blkB s i + 1) < s.size ∧ (s.extract (scan blkB s i + 1) (scan nqB s (scan blkB s i + 1))).data.toList.all priL = true
          · have e : tokF s i = ⟨3, scan blkB s i, s.extract (scan blkB s i + 1) (scan nqB s (scan blkB s i + 1)), scan nqB s (scan blkB s i + 1) + 1⟩ := by unfold tokF; simp only [hj, dif_pos]; rw [if_neg n1, if_neg n2, if_pos n3, if_pos n4]
            rw [e]; exact ⟨ext_all nqB s _, n4.2⟩
          · have e : tokF s i = ⟨5, scan blkB s i, ⟨#[]⟩, scan blkB s i⟩ := by unfold tokF; simp only [hj, dif_pos]; rw [if_neg n1, if_neg n2, if_pos n3, if_neg n4]
            rw [e] at h5; exact absurd rfl h5
        · by_cases n4 : visB s[scan blkB s i] = true
          · have e : tokF s i = ⟨4, scan blkB s i, s.extract (scan blkB s i) (scan visB s (scan blkB s i)), scan visB s (scan blkB s i)⟩ := by unfold tokF; simp only [hj, dif_pos]; rw [if_neg n1, if_neg n2, if_neg n3, if_pos n4]
            rw [e]
            refine ⟨fun hn => ?_, ext_all visB s _⟩
            have e1 := scan_yes hj n4
            have h1 := scan_ge visB s _ (scan blkB s i + 1) (Nat.le_refl _)
            have h2 := scan_le visB s _ (scan blkB s i) (Nat.le_refl _) (by omega)
            have hsz : (s.extract (scan blkB s i) (scan visB s (scan blkB s i))).data.toList.length = 0 := by rw [hn]; rfl
            simp [ByteArray.data_extract] at hsz
            omega
          · have e : tokF s i = ⟨5, scan blkB s i, ⟨#[]⟩, scan blkB s i⟩ := by unfold tokF; simp only [hj, dif_pos]; rw [if_neg n1, if_neg n2, if_neg n3, if_neg n4]
            rw [e] at h5; exact absurd rfl h5
  · have e : tokF s i = ⟨0, s.size, ⟨#[]⟩, s.size⟩ := by unfold tokF; simp only; rw [dif_neg hj]
    rw [e]; exact rfl
def Blanked (s : ByteArray) (i : Nat) (L : List (Nat × TK)) : Prop := L.map (·.2) = bare (toksL s i) ∧ (∃ x, L.getLast? = some x ∧ x.2.1 = 0) ∧ ∀ (j n m : Nat) (t u : TK), L[j]? = some (n, t) → L[j + 1]? = some (m, u) → t.1 = 4 → u.1 = 4 → 1 ≤ m
theorem blanked_ok (s : ByteArray) : ∀ (L : List (Nat × TK)) (i : Nat), Blanked s i L → SpOk L
  | [], i, h => by obtain ⟨-, ⟨x, hx, -⟩, -⟩ := h; cases hx
  | [(n, t)], i, h => by
    obtain ⟨h1, ⟨x, hx, hx0⟩, -⟩ := h
    injection hx with hx
    subst hx
    obtain ⟨r, hr⟩ := bare_ne s i
    rw [hr] at h1
    injection h1 with h1 _
    have h5 : (tokF s i).kind ≠ 5 := fun e => by
      have : t.1 = 5 := by rw [show t = _ from h1]; exact e
      have h0 : t.1 = 0 := hx0
      omega
    have := tok_ok h5
    obtain ⟨k, x⟩ := t
    have hk : k = 0 := hx0
    subst hk
    rw [← show ((0, x) : TK) = _ from h1] at this
    have hxe : x = ⟨#[]⟩ := this
    subst hxe
    rfl
  | (n, t) :: (m, u) :: r, i, h => by
    obtain ⟨h1, ⟨x, hx, hx0⟩, h3⟩ := h
    have hne : ¬ ((tokF s i).kind = 0 ∨ (tokF s i).kind = 5) := fun he => by
      rw [bare_end he] at h1
      cases h1
    have k0 : (tokF s i).kind ≠ 0 := fun e => hne (.inl e)
    have k5 : (tokF s i).kind ≠ 5 := fun e => hne (.inr e)
    rw [bare_more k0 k5] at h1
    injection h1 with h1 h1r
    have ht : t = ((tokF s i).kind, (tokF s i).txt) := h1
    refine ⟨by rw [ht]; exact k0, by rw [ht]; exact tok_ok k5, fun a b => h3 0 n m t u rfl rfl a b, blanked_ok s ((m, u) :: r) (tokF s i).till ⟨h1r, ⟨x, by rw [List.getLast?_cons_cons] at hx; exact hx, hx0⟩, fun j n' m' t' u' a b => h3 (j + 1) n' m' t' u' a b⟩⟩
theorem blanks_same {s t : ByteArray} {L : List (Nat × TK)} (hL : Blanked s 0 L) (ht : t.data.toList = spAll L) (hs : s.size ≤ 20000) (htl : t.size ≤ 20000) : (parseF t).bare = (parseF s).bare := by
  rw [parse_toks hs, parse_toks htl, toks_spell t L 0 (blanked_ok s L 0 hL) (by rw [List.drop_zero]; exact ht), hL.1]
end Go.Proofs.YtipdgobplfkipaaGreatDoor
namespace Go.Proofs.YtipdgobplfkipaaGreatDoor

def neB (b : UInt8) : Bool := !decide (b.toNat = 61)
def addsF : Itm → List ByteArray → Option Itm
  | n, [] => some n
  | n, w :: r => match addF n w with
    | some m => addsF m r
    | none => none
def itB (n : Int) : ByteArray := ⟨(Lib.itoa n).toArray⟩
def kndW (k : Int) : List ByteArray := if k = 3 then [wGroup] else if k = 4 then [wSlot] else []
def keyB (key : ByteArray) : List ByteArray := if key = ⟨#[]⟩ then [] else [⟨#[35]⟩ ++ key]
def durB (nm : ByteArray) (x : Int) : List ByteArray := if x = 0 then [] else [nm ++ ⟨#[61]⟩ ++ itB x]
def mdB (m : Int) : List ByteArray := if m = 1 then [wOutIn] else if m = 2 then [wInOut] else []
def apB (b : Bool) : List ByteArray := if b = true then [wAppear] else []
def mvB (b : Bool) : List ByteArray := if b = true then [wMoves] else []
def itmB (k : Int) (key : ByteArray) (cl : List ByteArray) (al : List (ByteArray × ByteArray)) (sl : List (ByteArray × Int)) (o : Opt) : List ByteArray :=
  keyB key ++ (cl.map (fun c => ⟨#[46]⟩ ++ c) ++ (al.map (fun x => ⟨#[64]⟩ ++ x.1 ++ ⟨#[61]⟩ ++ x.2) ++ (sl.map (fun x => x.1 ++ ⟨#[61]⟩ ++ itB x.2) ++ (kndW k ++ (durB wEnter o.1 ++ (durB wLeave o.2.1 ++ (durB wMove o.2.2.1 ++ (apB o.2.2.2.2.1 ++ (mvB o.2.2.2.2.2 ++ mdB o.2.2.2.1)))))))))
structure ItV (k : Int) (key : ByteArray) (cl : List ByteArray) (al : List (ByteArray × ByteArray)) (sl : List (ByteArray × Int)) (o : Opt) : Prop where
  k : k = 2 ∨ k = 3 ∨ k = 4
  key : key = ⟨#[]⟩ ∨ keyS key = true
  cl : ∀ c ∈ cl, nameS c = true
  al : ∀ x ∈ al, nameS x.1 = true ∧ valS x.2 = true
  sl : ∀ x ∈ sl, nameS x.1 = true ∧ ¬ outR x.2
  o1 : ¬ outR o.1
  o2 : ¬ outR o.2.1
  o3 : ¬ outR o.2.2.1
  o4 : o.2.2.2.1 = 0 ∨ o.2.2.2.1 = 1 ∨ o.2.2.2.1 = 2
def wKind : ByteArray := ⟨#[33, 107, 105, 110, 100]⟩
def wMode : ByteArray := ⟨#[33, 109, 111, 100, 101]⟩
def seenB (k : Int) (key : ByteArray) (al : List (ByteArray × ByteArray)) (sl : List (ByteArray × Int)) (o : Opt) : List ByteArray :=
  (if key = ⟨#[]⟩ then [] else [⟨#[35]⟩]) ++ (al.map (fun x => ⟨#[64]⟩ ++ x.1) ++ (sl.map (fun x => ⟨#[61]⟩ ++ x.1) ++ ((if k = 3 ∨ k = 4 then [wKind] else []) ++ ((if o.1 = 0 then [] else [wEnter]) ++ ((if o.2.1 = 0 then [] else [wLeave]) ++ ((if o.2.2.1 = 0 then [] else [wMove]) ++
    (apB o.2.2.2.2.1 ++ (mvB o.2.2.2.2.2 ++ (if o.2.2.2.1 = 1 ∨ o.2.2.2.1 = 2 then [wMode] else [])))))))))
end Go.Proofs.YtipdgobplfkipaaGreatDoor
namespace Go.Proofs.YtipdgobplfkipaaGreatDoor

def F7 : List ByteArray := [wKind, wEnter, wLeave, wMove, wAppear, wMoves, wMode]
mutual
def tkT : Tree → List TK
  | .mk k tag key text cl al sl o kids => if k = 1 then [(3, text)] else (1, ⟨#[]⟩) :: (4, tag) :: ((itmB k key cl al sl o).map (fun w => (4, w)) ++ (tkL kids ++ [(2, ⟨#[]⟩)]))
def tkL : List Tree → List TK
  | [] => []
  | t :: ts => tkT t ++ tkL ts
end
inductive PrV : Nat → Tree → Prop
  | txt {n : Nat} {text : ByteArray} (h : text.data.toList.all priB = true) : PrV (n + 1) (.mk 1 ⟨#[]⟩ ⟨#[]⟩ text [] [] [] o0 [])
  | elm {n : Nat} {k : Int} {tag key : ByteArray} {cl : List ByteArray} {al : List (ByteArray × ByteArray)} {sl : List (ByteArray × Int)} {o : Opt} {kids : List Tree} (h : ItV k key cl al sl o) (ht : nameS tag = true)
      (ha : (al.map (·.1)).Nodup) (hs : (sl.map (·.1)).Nodup) (hk : ∀ t ∈ kids, PrV n t) : PrV (n + 1) (.mk k tag key ⟨#[]⟩ cl al sl o kids)
end Go.Proofs.YtipdgobplfkipaaGreatDoor
namespace Go.Proofs.YtipdgobplfkipaaGreatDoor

def wdL (ws : List ByteArray) : List UInt8 := ws.flatMap (fun w => 32 :: w.data.toList)
mutual
def prB : Tree → List UInt8
  | .mk k tag key text cl al sl o kids => if k = 1 then 39 :: text.data.toList ++ [39] else 40 :: (tag.data.toList ++ (wdL (itmB k key cl al sl o) ++ (prBL kids ++ [41])))
def prBL : List Tree → List UInt8
  | [] => []
  | t :: ts => 32 :: prB t ++ prBL ts
end
mutual
def spT (n : Nat) : Tree → List (Nat × TK)
  | .mk k tag key text cl al sl o kids => if k = 1 then [(n, (3, text))] else (n, (1, ⟨#[]⟩)) :: (0, (4, tag)) :: ((itmB k key cl al sl o).map (fun w => (1, (4, w))) ++ (spTL kids ++ [(0, (2, ⟨#[]⟩))]))
def spTL : List Tree → List (Nat × TK)
  | [] => []
  | t :: ts => spT 1 t ++ spTL ts
end
theorem spAll_app : ∀ (a b : List (Nat × TK)), spAll (a ++ b) = spAll a ++ spAll b
  | [], b => rfl
  | (n, t) :: a, b => by rw [List.cons_append, spAll, spAll, spAll_app a b]; simp
def Sp1 (r : List (Nat × TK)) : Prop := SpOk r ∧ ∀ m u q, r = (m, u) :: q → u.1 = 4 → 1 ≤ m
abbrev tk0 : TK := (0, ⟨#[]⟩)
end Go.Proofs.YtipdgobplfkipaaGreatDoor
namespace Go.Proofs.YtipdgobplfkipaaGreatDoor
open Go.RowKit
set_option maxRecDepth 100000
attribute [local irreducible] Go.Code.wpIn Go.wpListIn Go.Calls Gives Go.Exit.then Go.Exit.inBlock Done ObxE

def cutF (s : ByteArray) (n : Nat) : ByteArray := if n < s.size then s.extract 0 n else s

theorem cut_any (s : ByteArray) (n : Nat) (w0 : World) : Calls Tryz.prog 8 #[.string s, .int .i64 (n : Int)] w0 (Ret fun v w => v = .string (cutF s n) ∧ St w0 [] w) := by
  refine enter Tryz.func8 rfl Tryz.ntmps8 rfl (fun a hk => ?_); have hS := St.refl w0
  by_cases hn : n < s.size
  · have hn' : (n : Int) < (s.size : Int) := by omega
    (repeat' (first | (show wpListIn _ _ _ _ _ (_ :: _) _ _; first | (refine wx1 ?_; clear hk a; intro a hk) | (refine wx2 ?_ ?_ <;> (intro hp; clear hk a; intro a hk)) | (refine wx3 ?_; clear hk hS a; intro w b hS a hk) | (refine wx4 ?_; clear hk hS a; intro w hS a hk) | (refine wx5 ?_; clear hk hS a; intro w v hS a hk) | fail) | refine wx0 ?_ | (refine s_end hk ?_; clear hk a; intro a hk) | fail))
    exact done1 hk (h := ⟨by rw [cutF, if_pos hn]; rfl, hS.nil⟩)
  · have hn' : ¬ (n : Int) < (s.size : Int) := by omega
    (repeat' (first | (show wpListIn _ _ _ _ _ (_ :: _) _ _; first | (refine wx1 ?_; clear hk a; intro a hk) | (refine wx2 ?_ ?_ <;> (intro hp; clear hk a; intro a hk)) | (refine wx3 ?_; clear hk hS a; intro w b hS a hk) | (refine wx4 ?_; clear hk hS a; intro w hS a hk) | (refine wx5 ?_; clear hk hS a; intro w v hS a hk) | fail) | refine wx0 ?_ | (refine s_end hk ?_; clear hk a; intro a hk) | fail))
    exact done1 hk (h := ⟨by rw [cutF, if_neg hn], hS.nil⟩)
end Go.Proofs.YtipdgobplfkipaaGreatDoor
namespace Go.Proofs.YtipdgobplfkipaaGreatDoor
open Go.RowKit
set_option maxRecDepth 100000
attribute [local irreducible] Go.Code.wpIn Go.wpListIn Go.Calls Gives Go.Exit.then Go.Exit.inBlock Done ObxE

def few04 (l : List PrI) (n : Nat) : List PrI := (l.take n).map (fun p => (cutF p.1 20, p.2))
end Go.Proofs.YtipdgobplfkipaaGreatDoor
namespace Go.Proofs.YtipdgobplfkipaaGreatDoor
open Go.RowKit
set_option maxRecDepth 100000
attribute [local irreducible] Go.Code.wpIn Go.wpListIn Go.Calls Gives Go.Exit.then Go.Exit.inBlock Done ObxE

section
variable {α β κ : Type} [DecidableEq κ] [Lin κ] {key : α → κ} {key' : β → κ} {f : α → β}
end

def idxF (l : List PrS) (n : Nat) : List PrI := (List.range n).map (fun i : Nat => ((l[i]?.getD (⟨#[]⟩, ⟨#[]⟩)).1, (i : Int)))
def atI (l : List PrS) (p : PrI) : PrS := l[p.2.toNat]?.getD (⟨#[]⟩, ⟨#[]⟩)
end Go.Proofs.YtipdgobplfkipaaGreatDoor
namespace Go.Proofs.YtipdgobplfkipaaGreatDoor
open Go.RowKit
set_option maxRecDepth 100000
attribute [local irreducible] Go.Code.wpIn Go.wpListIn Go.Calls Gives Go.Exit.then Go.Exit.inBlock Done ObxE

open Classical in
noncomputable def addC (l : List ByteArray) (c : ByteArray) : List ByteArray := if c ∈ l then l else l ++ [c]
noncomputable def clnC (l : List ByteArray) : List ByteArray := l.foldl addC []
end Go.Proofs.YtipdgobplfkipaaGreatDoor
namespace Go.Proofs.YtipdgobplfkipaaGreatDoor
open Go.RowKit
set_option maxRecDepth 100000
attribute [local irreducible] Go.Code.wpIn Go.wpListIn Go.Calls Gives Go.Exit.then Go.Exit.inBlock Done ObxE

def few03 (l : List ByteArray) (n : Nat) : List ByteArray := (l.take n).map (fun c => cutF c 20)
end Go.Proofs.YtipdgobplfkipaaGreatDoor
namespace Go.Proofs.YtipdgobplfkipaaGreatDoor
open Go.RowKit
set_option maxRecDepth 100000
attribute [local irreducible] Go.Code.wpIn Go.wpListIn Go.Calls Gives Go.Exit.then Go.Exit.inBlock Done ObxE

end Go.Proofs.YtipdgobplfkipaaGreatDoor
namespace Go.Proofs.YtipdgobplfkipaaGreatDoor
open Go.RowKit
set_option maxRecDepth 100000
attribute [local irreducible] Go.Code.wpIn Go.wpListIn Go.Calls Gives Go.Exit.then Go.Exit.inBlock Done ObxE

abbrev FlH := Int × Int × ByteArray × ByteArray × ByteArray × Hd × Hd × Hd × Opt
abbrev flV (h : FlH) : Value := .agg (Enc.f h).toArray
def fewA (l : List (ByteArray × ByteArray)) (n : Nat) : List (ByteArray × ByteArray) := (l.take n).map (fun p => (cutF p.1 20, cutF p.2 40))
theorem cutF_len (s : ByteArray) (n : Nat) : (cutF s n).size ≤ n := by
  unfold cutF
  split
  · simp; omega
  · omega

def nodeF (k : Int) (tag key text : ByteArray) (cl : List ByteArray) (al : List (ByteArray × ByteArray)) (sl : List (ByteArray × Int)) (o : Opt) : Tree :=
  .mk k (cutF tag 20) (cutF key 20) (cutF text 70) (few03 cl 4) (fewA al 4) (few04 sl 4) o []

end Go.Proofs.YtipdgobplfkipaaGreatDoor
namespace Go.Proofs.YtipdgobplfkipaaGreatDoor
open Go.RowKit
set_option maxRecDepth 100000
attribute [local irreducible] Go.Code.wpIn Go.wpListIn Go.Calls Gives Go.Exit.then Go.Exit.inBlock Done ObxE

def in64 (x : Int) : Prop := -9223372036854775808 ≤ x ∧ x ≤ 9223372036854775807
def FlR (w : World) (h : FlH) : Prop := ∃ (dp k : Int) (tag key text : ByteArray) (cl : List ByteArray) (al : List (ByteArray × ByteArray)) (sl : List (ByteArray × Int)) (e lv m d : Int) (p q : Bool) (a1 a2 a3 : Option Addr) (m1 m2 m3 : Nat),
  h = (dp, k, tag, key, text, ⟨a1, cl.length, m1⟩, ⟨a2, al.length, m2⟩, ⟨a3, sl.length, m3⟩, (e, lv, m, d, p, q)) ∧ SlT cl (.slice a1 cl.length m1) w ∧ SlT al (.slice a2 al.length m2) w ∧ SlT sl (.slice a3 sl.length m3) w ∧
  in64 dp ∧ in64 k ∧ in64 e ∧ in64 lv ∧ in64 m ∧ in64 d ∧ ∀ x ∈ sl, in64 x.2

def okN (k : Int) (tag key text : ByteArray) (cl : List ByteArray) (al : List (ByteArray × ByteArray)) (sl : List (ByteArray × Int)) (o : Opt) : Prop :=
  in64 k ∧ tag.size ≤ 20 ∧ key.size ≤ 20 ∧ text.size ≤ 70 ∧ cl.length ≤ 4 ∧ (∀ c ∈ cl, c.size ≤ 20) ∧ al.length ≤ 4 ∧ (∀ x ∈ al, x.1.size ≤ 20 ∧ x.2.size ≤ 40) ∧ sl.length ≤ 4 ∧ (∀ x ∈ sl, x.1.size ≤ 20 ∧ in64 x.2) ∧
  in64 o.1 ∧ in64 o.2.1 ∧ in64 o.2.2.1 ∧ in64 o.2.2.2.1
inductive Small : Tree → Prop where
  | mk {k : Int} {tag key text : ByteArray} {cl : List ByteArray} {al : List (ByteArray × ByteArray)} {sl : List (ByteArray × Int)} {o : Opt} {kids : List Tree} (h : okN k tag key text cl al sl o) (hk : ∀ t ∈ kids, Small t) : Small (.mk k tag key text cl al sl o kids)
mutual
def cnt : Tree → Nat
  | .mk _ _ _ _ _ _ _ _ kids => cntL kids + 1
def cntL : List Tree → Nat
  | [] => 0
  | t :: ts => cnt t + cntL ts
end
structure KS where
  at_ : Nat
  ts : List Tree
  H : List NdH
  a : Option Addr
  c : Nat

end Go.Proofs.YtipdgobplfkipaaGreatDoor
