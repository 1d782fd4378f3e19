/- Layer 8: the tokens of a text: the document. Layer 8, plain: a word of an element's, by the program and by the reader: the same. Layer 8, plain: what the reader's walk needs of tokens and words. -/
import Derived.Test.YtipdgobplfkipaaGreatDoorR08
import Derived.Test.YtipdgobplfkipaaGreatDoorR07
import Derived.Test.YtipdgobplfkipaaGreatDoorR13
set_option linter.all false
namespace Go.Proofs.YtipdgobplfkipaaGreatDoor
open Go.RowKit
set_option maxRecDepth 100000
attribute [local irreducible] Go.Code.wpIn Go.wpListIn Go.Calls Gives Go.Exit.then Go.Exit.inBlock Done ObxE

theorem rworded8_any (b : UInt8) (w0 : World) : Calls Tryz.prog 29 #[.int .u8 (b.toNat : Nat)] w0 (Ret fun v w => v = .bool (visB b) ∧ St w0 [] w) := by
  refine enter Tryz.func29 rfl Tryz.ntmps29 rfl (fun a hk => ?_); have hS := St.refl w0
  (repeat' (first | (show wpListIn _ _ _ _ _ (_ :: _) _ _; first | (refine wx1 ?_; clear hk a; intro a hk) | (refine wx2 ?_ ?_ <;> (intro hp; clear hk a; intro a hk)) | (refine wx3 ?_; clear hk hS a; intro w b hS a hk) | (refine wx4 ?_; clear hk hS a; intro w hS a hk) | (refine wx5 ?_; clear hk hS a; intro w v hS a hk) | fail) | refine wx0 ?_ | (refine s_end hk ?_; clear hk a; intro a hk) | fail))
  all_goals exact done1 hk (h := ⟨by unfold visB; first | rw [decide_eq_true (by omega)] | rw [decide_eq_false (by omega)], hS.nil⟩)
abbrev TkC := Int × Int × ByteArray
def tkC (t : Tok) : TkC := (t.kind, t.at_, t.txt)
theorem ext_step {s : ByteArray} {a j : Nat} (ha : a ≤ j) (hj : j < s.size) (p : UInt8 → Bool) : (s.extract a (j + 1)).data.toList.all p = ((s.extract a j).data.toList.all p && p s[j]) := by
  rw [ext_list, ext_list]
  have hl : j < s.data.toList.length := by simpa using hj
  have e : s.data.toList.take (j + 1) = s.data.toList.take j ++ [s[j]] := by
    rw [List.take_add_one, List.getElem?_eq_getElem hl]; rfl
  rw [e, List.drop_append_of_le_length (by rw [List.length_take]; omega), List.all_append]
  simp
theorem toks_len1 (s : ByteArray) : ∀ (n i : Nat), s.size - i ≤ n → (toksL s i).length ≤ s.size - i + 1
  | n, i, hn => by
    by_cases h : (tokF s i).kind = 0 ∨ (tokF s i).kind = 5
    · rw [toks_end h]; simp
    · have h0 : (tokF s i).kind ≠ 0 := fun e => h (.inl e)
      have h5 : (tokF s i).kind ≠ 5 := fun e => h (.inr e)
      obtain ⟨t1, t2⟩ := tok_till h0 h5
      rw [toks_more h0 h5, List.length_cons]
      match n, hn with
      | 0, hn => omega
      | n + 1, hn =>
        have := toks_len1 s n (tokF s i).till (by omega)
        omega

set_option maxHeartbeats 16000000 in
theorem tokens_any (s : ByteArray) (hs : s.size ≤ 1000000) (w0 : World) : Calls Tryz.prog 13 #[.string s] w0 (Ret fun v w => St w0 [OwT 52 ((toksL s 0).map tkC) v] w) := by
  refine enter Tryz.func13 rfl Tryz.ntmps13 rfl (fun a hk => ?_); have hS := St.refl w0
  (repeat' (first | (show wpListIn _ _ _ _ _ (_ :: _) _ _; first | (refine wx1 ?_; clear hk a; intro a hk) | (refine wx2 ?_ ?_ <;> (intro hp; clear hk a; intro a hk)) | (refine wx3 ?_; clear hk hS a; intro w b hS a hk) | (refine wx4 ?_; clear hk hS a; intro w hS a hk) | (refine wx5 ?_; clear hk hS a; intro w v hS a hk) | fail) | refine wx0 ?_ | (refine s_end hk ?_; clear hk a; intro a hk) | fail))
  refine sg hk (g_bs0 TkC hS ?_ (hT := eT rfl) (hE := zT rfl)); clear hk hS a; intro w v3 hS a hk
  (repeat' (first | (show wpListIn _ _ _ _ _ (_ :: _) _ _; first | (refine wx1 ?_; clear hk a; intro a hk) | (refine wx2 ?_ ?_ <;> (intro hp; clear hk a; intro a hk)) | (refine wx3 ?_; clear hk hS a; intro w b hS a hk) | (refine wx4 ?_; clear hk hS a; intro w hS a hk) | (refine wx5 ?_; clear hk hS a; intro w v hS a hk) | fail) | refine wx0 ?_ | (refine s_end hk ?_; clear hk a; intro a hk) | fail))
  replace hk := Kn.kp [0, 3, 4] hk
  refine wp_while (fun x : Nat × List Tok × Value => [(3, x.2.2), (4, .int .i64 (x.1 : Int))]) (fun x => [OwT 52 (x.2.1.map tkC) x.2.2]) (fun x => x.1 ≤ s.size ∧ toksL s 0 = x.2.1 ++ toksL s x.1 ∧ x.2.1.length ≤ x.1) (fun x => s.size - x.1) (0, [], v3) hk (by repeat (first | exact trivial | refine ⟨rfl, ?_⟩)) hS.sb ⟨Nat.zero_le _, rfl, Nat.le_refl _⟩ ?_
  clear hk hS a
  rintro ⟨i, dn, v4⟩ a w hk hS ⟨hi, htl, hdl⟩
  simp only at hk hS hi htl hdl
  rw [htl]
  have hml : (dn.map tkC).length = dn.length := List.length_map _
  (repeat' (first | (show wpListIn _ _ _ _ _ (_ :: _) _ _; first | (refine wx1 ?_; clear hk a; intro a hk) | (refine wx2 ?_ ?_ <;> (intro hp; clear hk a; intro a hk)) | (refine wx3 ?_; clear hk hS a; intro w b hS a hk) | (refine wx4 ?_; clear hk hS a; intro w hS a hk) | (refine wx5 ?_; clear hk hS a; intro w v hS a hk) | fail) | refine wx0 ?_ | (refine s_end hk ?_; clear hk a; intro a hk) | fail))
  replace hk := Kn.kp [0, 3, 4] hk
  refine wp_while (fun x : Nat => [(4, .int .i64 (x : Int))]) (fun _ => [OwT 52 (dn.map tkC) v4]) (fun x => i ≤ x ∧ x ≤ s.size ∧ scan blkB s x = scan blkB s i) (fun x => s.size - x) i hk (by repeat (first | exact trivial | refine ⟨rfl, ?_⟩)) hS.sb ⟨Nat.le_refl _, hi, rfl⟩ ?_
  clear hk hS a
  rintro x a w hk hS ⟨hix, hx, hsc⟩
  by_cases hgo : ∃ h : x < s.size, s[x].toNat = 32
  · obtain ⟨hxl, hb⟩ := hgo
    have hst := scan_yes (p := blkB) hxl (by unfold blkB; rw [decide_eq_true hb])
    (repeat' (first | (show wpListIn _ _ _ _ _ (_ :: _) _ _; first | (refine wx1 ?_; clear hk a; intro a hk) | (refine wx2 ?_ ?_ <;> (intro hp; clear hk a; intro a hk)) | (refine wx3 ?_; clear hk hS a; intro w b hS a hk) | (refine wx4 ?_; clear hk hS a; intro w hS a hk) | (refine wx5 ?_; clear hk hS a; intro w v hS a hk) | fail) | refine wx0 ?_ | (refine s_end hk ?_; clear hk a; intro a hk) | fail))
    exact ⟨x + 1, by omega, hk.sd, hS.sb, by omega, by omega, by rw [← hst]; exact hsc⟩
  · have hq : scan blkB s i = x := by
      rw [← hsc]
      by_cases hxl : x < s.size
      · exact scan_no hxl (by unfold blkB; rw [decide_eq_false (fun h => hgo ⟨hxl, h⟩)]; decide)
      · exact scan_end hxl
    have te := @tok_e s i
    have t1 := @tok_1 s i
    have t2 := @tok_2 s i
    have t3 := @tok_3 s i
    have t5 := @tok_5 s i
    have t4 := @tok_4 s i
    have t6 := @tok_6 s i
    have tm := @toks_more s i
    have tn := @toks_end s i
    simp only [hq] at te t1 t2 t3 t4 t5 t6
    by_cases hxl : x < s.size
    · have n32 : s[x].toNat ≠ 32 := fun h => hgo ⟨hxl, h⟩
      by_cases c40 : s[x].toNat = 40
      · have e := t1 hxl c40
        have em := tm (by rw [e]; show (1 : Nat) ≠ 0; decide) (by rw [e]; show (1 : Nat) ≠ 5; decide)
        rw [e] at em
        (repeat' (first | (show wpListIn _ _ _ _ _ (_ :: _) _ _; first | (refine wx1 ?_; clear hk a; intro a hk) | (refine wx2 ?_ ?_ <;> (intro hp; clear hk a; intro a hk)) | (refine wx3 ?_; clear hk hS a; intro w b hS a hk) | (refine wx4 ?_; clear hk hS a; intro w hS a hk) | (refine wx5 ?_; clear hk hS a; intro w v hS a hk) | fail) | refine wx0 ?_ | (refine s_end hk ?_; clear hk a; intro a hk) | fail))
        refine sg hk (g_bsT (xs := [(((1 : Int), ((x : Int), (⟨#[]⟩ : ByteArray))) : TkC)]) (m := 0) hk hS ?_ (hT := eT rfl) (hE := zT rfl) (hz := oT rfl)); clear hk hS a; intro w ve hS a hk
        (repeat' (first | (show wpListIn _ _ _ _ _ (_ :: _) _ _; first | (refine wx1 ?_; clear hk a; intro a hk) | (refine wx2 ?_ ?_ <;> (intro hp; clear hk a; intro a hk)) | (refine wx3 ?_; clear hk hS a; intro w b hS a hk) | (refine wx4 ?_; clear hk hS a; intro w hS a hk) | (refine wx5 ?_; clear hk hS a; intro w v hS a hk) | fail) | refine wx0 ?_ | (refine s_end hk ?_; clear hk a; intro a hk) | fail))
        rename Value => v8
        refine ⟨(x + 1, dn ++ [⟨1, x, ⟨#[]⟩, x + 1⟩], v8), by show s.size - (x + 1) < s.size - i; omega, hk.sd, ?_, by show x + 1 ≤ s.size; omega, ?_, ?_⟩
        · rw [List.map_append]; exact hS.sb
        · rw [em, List.append_assoc]; rfl
        · show (dn ++ [_]).length ≤ x + 1; rw [List.length_append, List.length_cons, List.length_nil]; omega
      · by_cases c41 : s[x].toNat = 41
        · have e := t2 hxl c41
          have em := tm (by rw [e]; show (2 : Nat) ≠ 0; decide) (by rw [e]; show (2 : Nat) ≠ 5; decide)
          rw [e] at em
          (repeat' (first | (show wpListIn _ _ _ _ _ (_ :: _) _ _; first | (refine wx1 ?_; clear hk a; intro a hk) | (refine wx2 ?_ ?_ <;> (intro hp; clear hk a; intro a hk)) | (refine wx3 ?_; clear hk hS a; intro w b hS a hk) | (refine wx4 ?_; clear hk hS a; intro w hS a hk) | (refine wx5 ?_; clear hk hS a; intro w v hS a hk) | fail) | refine wx0 ?_ | (refine s_end hk ?_; clear hk a; intro a hk) | fail))
          refine sg hk (g_bsT (xs := [(((2 : Int), ((x : Int), (⟨#[]⟩ : ByteArray))) : TkC)]) (m := 0) hk hS ?_ (hT := eT rfl) (hE := zT rfl) (hz := oT rfl)); clear hk hS a; intro w ve hS a hk
          (repeat' (first | (show wpListIn _ _ _ _ _ (_ :: _) _ _; first | (refine wx1 ?_; clear hk a; intro a hk) | (refine wx2 ?_ ?_ <;> (intro hp; clear hk a; intro a hk)) | (refine wx3 ?_; clear hk hS a; intro w b hS a hk) | (refine wx4 ?_; clear hk hS a; intro w hS a hk) | (refine wx5 ?_; clear hk hS a; intro w v hS a hk) | fail) | refine wx0 ?_ | (refine s_end hk ?_; clear hk a; intro a hk) | fail))
          rename Value => v8
          refine ⟨(x + 1, dn ++ [⟨2, x, ⟨#[]⟩, x + 1⟩], v8), by show s.size - (x + 1) < s.size - i; omega, hk.sd, ?_, by show x + 1 ≤ s.size; omega, ?_, ?_⟩
          · rw [List.map_append]; exact hS.sb
          · rw [em, List.append_assoc]; rfl
          · show (dn ++ [_]).length ≤ x + 1; rw [List.length_append, List.length_cons, List.length_nil]; omega
        · by_cases c39 : s[x].toNat = 39
          · have hge := scan_ge nqB s _ (x + 1) (Nat.le_refl _)
            have hle := scan_le nqB s _ (x + 1) (Nat.le_refl _) (by omega)
            (repeat' (first | (show wpListIn _ _ _ _ _ (_ :: _) _ _; first | (refine wx1 ?_; clear hk a; intro a hk) | (refine wx2 ?_ ?_ <;> (intro hp; clear hk a; intro a hk)) | (refine wx3 ?_; clear hk hS a; intro w b hS a hk) | (refine wx4 ?_; clear hk hS a; intro w hS a hk) | (refine wx5 ?_; clear hk hS a; intro w v hS a hk) | fail) | refine wx0 ?_ | (refine s_end hk ?_; clear hk a; intro a hk) | fail))
            replace hk := Kn.kp [0, 3, 4, 5, 6] hk
            refine wp_while (fun y : Nat × Bool => [(4, .int .i64 (y.1 : Int)), (6, .bool y.2)]) (fun _ => [OwT 52 (dn.map tkC) v4]) (fun y => x + 1 ≤ y.1 ∧ y.1 ≤ s.size ∧ scan nqB s y.1 = scan nqB s (x + 1) ∧ y.2 = (s.extract (x + 1) y.1).data.toList.all priL) (fun y => s.size - y.1) (x + 1, true) hk (by repeat (first | exact trivial | refine ⟨rfl, ?_⟩)) hS.sb ⟨Nat.le_refl _, hxl, rfl, by simp [ByteArray.data_extract]⟩ ?_
            clear hk hS a
            rintro ⟨y, good⟩ a w hk hS ⟨hy1, hy2, hy3, hy4⟩
            simp only at hk hS hy1 hy2 hy3 hy4
            by_cases hgo2 : ∃ h : y < s.size, s[y].toNat ≠ 39
            · obtain ⟨hyl, hyb⟩ := hgo2
              have hst := scan_yes (p := nqB) hyl (by unfold nqB; rw [decide_eq_false hyb]; rfl)
              have hex := ext_step hy1 hyl priL
              rw [hst] at hy3
              cases good with
              | false =>
                (repeat' (first | (show wpListIn _ _ _ _ _ (_ :: _) _ _; first | (refine wx1 ?_; clear hk a; intro a hk) | (refine wx2 ?_ ?_ <;> (intro hp; clear hk a; intro a hk)) | (refine wx3 ?_; clear hk hS a; intro w b hS a hk) | (refine wx4 ?_; clear hk hS a; intro w hS a hk) | (refine wx5 ?_; clear hk hS a; intro w v hS a hk) | fail) | refine wx0 ?_ | (refine s_end hk ?_; clear hk a; intro a hk) | fail))
                exact ⟨(y + 1, false), by show s.size - (y + 1) < s.size - y; omega, hk.sd, hS.sb, by show x + 1 ≤ y + 1; omega, hyl, hy3, by show false = _; rw [hex, ← hy4]; rfl⟩
              | true =>
                (repeat' (first | (show wpListIn _ _ _ _ _ (_ :: _) _ _; first | (refine wx1 ?_; clear hk a; intro a hk) | (refine wx2 ?_ ?_ <;> (intro hp; clear hk a; intro a hk)) | (refine wx3 ?_; clear hk hS a; intro w b hS a hk) | (refine wx4 ?_; clear hk hS a; intro w hS a hk) | (refine wx5 ?_; clear hk hS a; intro w v hS a hk) | fail) | refine wx0 ?_ | (refine s_end hk ?_; clear hk a; intro a hk) | fail))
                all_goals first
                  | exact ⟨(y + 1, true), by show s.size - (y + 1) < s.size - y; omega, hk.sd, hS.sb, by show x + 1 ≤ y + 1; omega, hyl, hy3, by show true = _; rw [hex, ← hy4]; unfold priL; rw [decide_eq_true (by omega)]; rfl⟩
                  | exact ⟨(y + 1, false), by show s.size - (y + 1) < s.size - y; omega, hk.sd, hS.sb, by show x + 1 ≤ y + 1; omega, hyl, hy3, by show false = _; rw [hex, ← hy4]; unfold priL; rw [decide_eq_false (by omega)]; rfl⟩
            · have hye : y = scan nqB s (x + 1) := by
                rw [← hy3]
                by_cases hyl : y < s.size
                · exact (scan_no hyl (by unfold nqB; rw [decide_eq_true (by by_cases h : s[y].toNat = 39; exact h; exact absurd ⟨hyl, h⟩ hgo2)]; decide)).symm
                · exact (scan_end hyl).symm
              have hgood : ∀ h : y < s.size, s[y].toNat = 39 := fun h => by by_cases h9 : s[y].toNat = 39; exact h9; exact absurd ⟨h, h9⟩ hgo2
              rw [← hye] at t3 t5 hge hle
              clear hgo2 hgo
              by_cases hfin : y < s.size ∧ good = true
              · obtain ⟨hyl, rfl⟩ := hfin
                have hy39 := hgood hyl
                have e := t3 hxl c39 ⟨hyl, hy4.symm⟩
                have em := tm (by rw [e]; show (3 : Nat) ≠ 0; decide) (by rw [e]; show (3 : Nat) ≠ 5; decide)
                rw [e] at em
                clear hgood t1 t2 t3 t4 t5 t6 te
                (repeat' (first | (show wpListIn _ _ _ _ _ (_ :: _) _ _; first | (refine wx1 ?_; clear hk a; intro a hk) | (refine wx2 ?_ ?_ <;> (intro hp; clear hk a; intro a hk)) | (refine wx3 ?_; clear hk hS a; intro w b hS a hk) | (refine wx4 ?_; clear hk hS a; intro w hS a hk) | (refine wx5 ?_; clear hk hS a; intro w v hS a hk) | fail) | refine wx0 ?_ | (refine s_end hk ?_; clear hk a; intro a hk) | fail))
                rw [show ((x : Int) + 1).toNat = x + 1 by omega, show ((y : Int)).toNat = y by omega] at hk
                (repeat' (first | (show wpListIn _ _ _ _ _ (_ :: _) _ _; first | (refine wx1 ?_; clear hk a; intro a hk) | (refine wx2 ?_ ?_ <;> (intro hp; clear hk a; intro a hk)) | (refine wx3 ?_; clear hk hS a; intro w b hS a hk) | (refine wx4 ?_; clear hk hS a; intro w hS a hk) | (refine wx5 ?_; clear hk hS a; intro w v hS a hk) | fail) | refine wx0 ?_ | (refine s_end hk ?_; clear hk a; intro a hk) | fail))
                refine sg hk (g_bsT (xs := [(((3 : Int), ((x : Int), (s.extract (x + 1) y : ByteArray))) : TkC)]) (m := 0) hk hS ?_ (hT := eT rfl) (hE := zT rfl) (hz := oT rfl)); clear hk hS a; intro w ve hS a hk
                (repeat' (first | (show wpListIn _ _ _ _ _ (_ :: _) _ _; first | (refine wx1 ?_; clear hk a; intro a hk) | (refine wx2 ?_ ?_ <;> (intro hp; clear hk a; intro a hk)) | (refine wx3 ?_; clear hk hS a; intro w b hS a hk) | (refine wx4 ?_; clear hk hS a; intro w hS a hk) | (refine wx5 ?_; clear hk hS a; intro w v hS a hk) | fail) | refine wx0 ?_ | (refine s_end hk ?_; clear hk a; intro a hk) | fail))
                rename Value => v8
                refine ⟨(y + 1, dn ++ [⟨3, x, s.extract (x + 1) y, y + 1⟩], v8), by show s.size - (y + 1) < s.size - i; omega, hk.sd, ?_, by show y + 1 ≤ s.size; omega, ?_, ?_⟩
                · rw [List.map_append]; exact hS.sb
                · rw [em, List.append_assoc]; rfl
                · show (dn ++ [_]).length ≤ y + 1; rw [List.length_append, List.length_cons, List.length_nil]; omega
              · have e := t5 hxl c39 (fun h => hfin ⟨h.1, by rw [hy4]; exact h.2⟩)
                cases good with
                | false =>
                  by_cases hyl : y < s.size
                  · have hy39 := hgood hyl
                    clear hgood t1 t2 t3 t4 t5 t6 te hfin
                    (repeat' (first | (show wpListIn _ _ _ _ _ (_ :: _) _ _; first | (refine wx1 ?_; clear hk a; intro a hk) | (refine wx2 ?_ ?_ <;> (intro hp; clear hk a; intro a hk)) | (refine wx3 ?_; clear hk hS a; intro w b hS a hk) | (refine wx4 ?_; clear hk hS a; intro w hS a hk) | (refine wx5 ?_; clear hk hS a; intro w v hS a hk) | fail) | refine wx0 ?_ | (refine s_end hk ?_; clear hk a; intro a hk) | fail))
                    refine sg hk (g_bsT (xs := [(((5 : Int), ((x : Int), (⟨#[]⟩ : ByteArray))) : TkC)]) (m := 0) hk hS ?_ (hT := eT rfl) (hE := zT rfl) (hz := oT rfl)); clear hk hS a; intro w ve hS a hk
                    (repeat' (first | (show wpListIn _ _ _ _ _ (_ :: _) _ _; first | (refine wx1 ?_; clear hk a; intro a hk) | (refine wx2 ?_ ?_ <;> (intro hp; clear hk a; intro a hk)) | (refine wx3 ?_; clear hk hS a; intro w b hS a hk) | (refine wx4 ?_; clear hk hS a; intro w hS a hk) | (refine wx5 ?_; clear hk hS a; intro w v hS a hk) | fail) | refine wx0 ?_ | (refine s_end hk ?_; clear hk a; intro a hk) | fail))
                    refine done1 hk (h := ?_)
                    rw [tn (by rw [e]; exact .inr rfl), e, List.map_append]
                    exact hS.sub (by (repeat (first | exact Sub.nil | exact Sub.refl | refine Sub.cons (by (repeat (first | exact At.here | apply At.there))) ?_)))
                  · clear hgood t1 t2 t3 t4 t5 t6 te hfin
                    (repeat' (first | (show wpListIn _ _ _ _ _ (_ :: _) _ _; first | (refine wx1 ?_; clear hk a; intro a hk) | (refine wx2 ?_ ?_ <;> (intro hp; clear hk a; intro a hk)) | (refine wx3 ?_; clear hk hS a; intro w b hS a hk) | (refine wx4 ?_; clear hk hS a; intro w hS a hk) | (refine wx5 ?_; clear hk hS a; intro w v hS a hk) | fail) | refine wx0 ?_ | (refine s_end hk ?_; clear hk a; intro a hk) | fail))
                    refine sg hk (g_bsT (xs := [(((5 : Int), ((x : Int), (⟨#[]⟩ : ByteArray))) : TkC)]) (m := 0) hk hS ?_ (hT := eT rfl) (hE := zT rfl) (hz := oT rfl)); clear hk hS a; intro w ve hS a hk
                    (repeat' (first | (show wpListIn _ _ _ _ _ (_ :: _) _ _; first | (refine wx1 ?_; clear hk a; intro a hk) | (refine wx2 ?_ ?_ <;> (intro hp; clear hk a; intro a hk)) | (refine wx3 ?_; clear hk hS a; intro w b hS a hk) | (refine wx4 ?_; clear hk hS a; intro w hS a hk) | (refine wx5 ?_; clear hk hS a; intro w v hS a hk) | fail) | refine wx0 ?_ | (refine s_end hk ?_; clear hk a; intro a hk) | fail))
                    refine done1 hk (h := ?_)
                    rw [tn (by rw [e]; exact .inr rfl), e, List.map_append]
                    exact hS.sub (by (repeat (first | exact Sub.nil | exact Sub.refl | refine Sub.cons (by (repeat (first | exact At.here | apply At.there))) ?_)))
                | true =>
                  have hyl : ¬ y < s.size := fun h => hfin ⟨h, rfl⟩
                  clear hgood t1 t2 t3 t4 t5 t6 te hfin
                  (repeat' (first | (show wpListIn _ _ _ _ _ (_ :: _) _ _; first | (refine wx1 ?_; clear hk a; intro a hk) | (refine wx2 ?_ ?_ <;> (intro hp; clear hk a; intro a hk)) | (refine wx3 ?_; clear hk hS a; intro w b hS a hk) | (refine wx4 ?_; clear hk hS a; intro w hS a hk) | (refine wx5 ?_; clear hk hS a; intro w v hS a hk) | fail) | refine wx0 ?_ | (refine s_end hk ?_; clear hk a; intro a hk) | fail))
                  refine sg hk (g_bsT (xs := [(((5 : Int), ((x : Int), (⟨#[]⟩ : ByteArray))) : TkC)]) (m := 0) hk hS ?_ (hT := eT rfl) (hE := zT rfl) (hz := oT rfl)); clear hk hS a; intro w ve hS a hk
                  (repeat' (first | (show wpListIn _ _ _ _ _ (_ :: _) _ _; first | (refine wx1 ?_; clear hk a; intro a hk) | (refine wx2 ?_ ?_ <;> (intro hp; clear hk a; intro a hk)) | (refine wx3 ?_; clear hk hS a; intro w b hS a hk) | (refine wx4 ?_; clear hk hS a; intro w hS a hk) | (refine wx5 ?_; clear hk hS a; intro w v hS a hk) | fail) | refine wx0 ?_ | (refine s_end hk ?_; clear hk a; intro a hk) | fail))
                  refine done1 hk (h := ?_)
                  rw [tn (by rw [e]; exact .inr rfl), e, List.map_append]
                  exact hS.sub (by (repeat (first | exact Sub.nil | exact Sub.refl | refine Sub.cons (by (repeat (first | exact At.here | apply At.there))) ?_)))
          · have hwd := fun w0 => rworded8_any s[x] w0
            by_cases hv : visB s[x] = true
            · have e := t4 hxl hv
              have hge := scan_ge visB s _ x (Nat.le_refl _)
              have hle := scan_le visB s _ x (Nat.le_refl _) (by omega)
              have hgt : x < scan visB s x := by
                have h1 := scan_yes (p := visB) hxl hv
                have h2 := scan_ge visB s _ (x + 1) (Nat.le_refl _)
                omega
              rw [hv] at hwd
              (repeat' (first | (show wpListIn _ _ _ _ _ (_ :: _) _ _; first | (refine wx1 ?_; clear hk a; intro a hk) | (refine wx2 ?_ ?_ <;> (intro hp; clear hk a; intro a hk)) | (refine wx3 ?_; clear hk hS a; intro w b hS a hk) | (refine wx4 ?_; clear hk hS a; intro w hS a hk) | (refine wx5 ?_; clear hk hS a; intro w v hS a hk) | fail) | refine wx0 ?_ | (refine s_end hk ?_; clear hk a; intro a hk) | fail))
              refine sg hk (g_callO hk (hf := by kernel_rfl) (hc := hwd _) (h := ?_)); clear hk a; rintro _ w ⟨rfl, hS1⟩ a hk; replace hS := hS.call0 hS1; clear hS1
              (repeat' (first | (show wpListIn _ _ _ _ _ (_ :: _) _ _; first | (refine wx1 ?_; clear hk a; intro a hk) | (refine wx2 ?_ ?_ <;> (intro hp; clear hk a; intro a hk)) | (refine wx3 ?_; clear hk hS a; intro w b hS a hk) | (refine wx4 ?_; clear hk hS a; intro w hS a hk) | (refine wx5 ?_; clear hk hS a; intro w v hS a hk) | fail) | refine wx0 ?_ | (refine s_end hk ?_; clear hk a; intro a hk) | fail))
              replace hk := Kn.kp [0, 3, 4, 5] hk
              refine wp_while (fun y : Nat => [(4, .int .i64 (y : Int))]) (fun _ => [OwT 52 (dn.map tkC) v4]) (fun y => x ≤ y ∧ y ≤ s.size ∧ scan visB s y = scan visB s x) (fun y => s.size - y) x hk (by repeat (first | exact trivial | refine ⟨rfl, ?_⟩)) hS.sb ⟨Nat.le_refl _, by omega, rfl⟩ ?_
              clear hk hS a hwd
              rintro y a w hk hS ⟨hy1, hy2, hy3⟩
              by_cases hyl : y < s.size
              · have hwd := fun w0 => rworded8_any s[y] w0
                cases hvy : visB s[y] with
                | true =>
                  rw [hvy] at hwd
                  have hst := scan_yes (p := visB) hyl hvy
                  (repeat' (first | (show wpListIn _ _ _ _ _ (_ :: _) _ _; first | (refine wx1 ?_; clear hk a; intro a hk) | (refine wx2 ?_ ?_ <;> (intro hp; clear hk a; intro a hk)) | (refine wx3 ?_; clear hk hS a; intro w b hS a hk) | (refine wx4 ?_; clear hk hS a; intro w hS a hk) | (refine wx5 ?_; clear hk hS a; intro w v hS a hk) | fail) | refine wx0 ?_ | (refine s_end hk ?_; clear hk a; intro a hk) | fail))
                  refine sg hk (g_callO hk (hf := by kernel_rfl) (hc := hwd _) (h := ?_)); clear hk a; rintro _ w ⟨rfl, hS1⟩ a hk; replace hS := hS.call0 hS1; clear hS1
                  (repeat' (first | (show wpListIn _ _ _ _ _ (_ :: _) _ _; first | (refine wx1 ?_; clear hk a; intro a hk) | (refine wx2 ?_ ?_ <;> (intro hp; clear hk a; intro a hk)) | (refine wx3 ?_; clear hk hS a; intro w b hS a hk) | (refine wx4 ?_; clear hk hS a; intro w hS a hk) | (refine wx5 ?_; clear hk hS a; intro w v hS a hk) | fail) | refine wx0 ?_ | (refine s_end hk ?_; clear hk a; intro a hk) | fail))
                  exact ⟨y + 1, by omega, hk.sd, hS.sb, by omega, hyl, by rw [← hst]; exact hy3⟩
                | false =>
                  rw [hvy] at hwd
                  have hye : scan visB s x = y := by rw [← hy3]; exact scan_no hyl (by rw [hvy]; decide)
                  rw [hye] at e hgt
                  have em := tm (by rw [e]; show (4 : Nat) ≠ 0; decide) (by rw [e]; show (4 : Nat) ≠ 5; decide)
                  rw [e] at em
                  clear hgo t1 t2 t3 t4 t5 t6 te
                  (repeat' (first | (show wpListIn _ _ _ _ _ (_ :: _) _ _; first | (refine wx1 ?_; clear hk a; intro a hk) | (refine wx2 ?_ ?_ <;> (intro hp; clear hk a; intro a hk)) | (refine wx3 ?_; clear hk hS a; intro w b hS a hk) | (refine wx4 ?_; clear hk hS a; intro w hS a hk) | (refine wx5 ?_; clear hk hS a; intro w v hS a hk) | fail) | refine wx0 ?_ | (refine s_end hk ?_; clear hk a; intro a hk) | fail))
                  refine sg hk (g_callO hk (hf := by kernel_rfl) (hc := hwd _) (h := ?_)); clear hk a; rintro _ w ⟨rfl, hS1⟩ a hk; replace hS := hS.call0 hS1; clear hS1
                  (repeat' (first | (show wpListIn _ _ _ _ _ (_ :: _) _ _; first | (refine wx1 ?_; clear hk a; intro a hk) | (refine wx2 ?_ ?_ <;> (intro hp; clear hk a; intro a hk)) | (refine wx3 ?_; clear hk hS a; intro w b hS a hk) | (refine wx4 ?_; clear hk hS a; intro w hS a hk) | (refine wx5 ?_; clear hk hS a; intro w v hS a hk) | fail) | refine wx0 ?_ | (refine s_end hk ?_; clear hk a; intro a hk) | fail))
                  rw [show ((x : Int)).toNat = x by omega, show ((y : Int)).toNat = y by omega] at hk
                  refine sg hk (g_bsT (xs := [(((4 : Int), ((x : Int), (s.extract x y : ByteArray))) : TkC)]) (m := 0) hk hS ?_ (hT := eT rfl) (hE := zT rfl) (hz := oT rfl)); clear hk hS a; intro w ve hS a hk
                  (repeat' (first | (show wpListIn _ _ _ _ _ (_ :: _) _ _; first | (refine wx1 ?_; clear hk a; intro a hk) | (refine wx2 ?_ ?_ <;> (intro hp; clear hk a; intro a hk)) | (refine wx3 ?_; clear hk hS a; intro w b hS a hk) | (refine wx4 ?_; clear hk hS a; intro w hS a hk) | (refine wx5 ?_; clear hk hS a; intro w v hS a hk) | fail) | refine wx0 ?_ | (refine s_end hk ?_; clear hk a; intro a hk) | fail))
                  rename Value => v8
                  refine ⟨(y, dn ++ [⟨4, x, s.extract x y, y⟩], v8), by show s.size - (y) < s.size - i; omega, hk.sd, ?_, by show y ≤ s.size; omega, ?_, ?_⟩
                  · rw [List.map_append]; exact hS.sb
                  · rw [em, List.append_assoc]; rfl
                  · show (dn ++ [_]).length ≤ y; rw [List.length_append, List.length_cons, List.length_nil]; omega
              · have hye : scan visB s x = y := by rw [← hy3]; exact scan_end hyl
                rw [hye] at e hgt
                have em := tm (by rw [e]; show (4 : Nat) ≠ 0; decide) (by rw [e]; show (4 : Nat) ≠ 5; decide)
                rw [e] at em
                clear hgo t1 t2 t3 t4 t5 t6 te
                (repeat' (first | (show wpListIn _ _ _ _ _ (_ :: _) _ _; first | (refine wx1 ?_; clear hk a; intro a hk) | (refine wx2 ?_ ?_ <;> (intro hp; clear hk a; intro a hk)) | (refine wx3 ?_; clear hk hS a; intro w b hS a hk) | (refine wx4 ?_; clear hk hS a; intro w hS a hk) | (refine wx5 ?_; clear hk hS a; intro w v hS a hk) | fail) | refine wx0 ?_ | (refine s_end hk ?_; clear hk a; intro a hk) | fail))
                rw [show ((x : Int)).toNat = x by omega, show ((y : Int)).toNat = y by omega] at hk
                refine sg hk (g_bsT (xs := [(((4 : Int), ((x : Int), (s.extract x y : ByteArray))) : TkC)]) (m := 0) hk hS ?_ (hT := eT rfl) (hE := zT rfl) (hz := oT rfl)); clear hk hS a; intro w ve hS a hk
                (repeat' (first | (show wpListIn _ _ _ _ _ (_ :: _) _ _; first | (refine wx1 ?_; clear hk a; intro a hk) | (refine wx2 ?_ ?_ <;> (intro hp; clear hk a; intro a hk)) | (refine wx3 ?_; clear hk hS a; intro w b hS a hk) | (refine wx4 ?_; clear hk hS a; intro w hS a hk) | (refine wx5 ?_; clear hk hS a; intro w v hS a hk) | fail) | refine wx0 ?_ | (refine s_end hk ?_; clear hk a; intro a hk) | fail))
                rename Value => v8
                refine ⟨(y, dn ++ [⟨4, x, s.extract x y, y⟩], v8), by show s.size - (y) < s.size - i; omega, hk.sd, ?_, by show y ≤ s.size; omega, ?_, ?_⟩
                · rw [List.map_append]; exact hS.sb
                · rw [em, List.append_assoc]; rfl
                · show (dn ++ [_]).length ≤ y; rw [List.length_append, List.length_cons, List.length_nil]; omega
            · have e := t6 hxl c40 c41 c39 hv
              have hvf : visB s[x] = false := by simpa using hv
              rw [hvf] at hwd
              (repeat' (first | (show wpListIn _ _ _ _ _ (_ :: _) _ _; first | (refine wx1 ?_; clear hk a; intro a hk) | (refine wx2 ?_ ?_ <;> (intro hp; clear hk a; intro a hk)) | (refine wx3 ?_; clear hk hS a; intro w b hS a hk) | (refine wx4 ?_; clear hk hS a; intro w hS a hk) | (refine wx5 ?_; clear hk hS a; intro w v hS a hk) | fail) | refine wx0 ?_ | (refine s_end hk ?_; clear hk a; intro a hk) | fail))
              refine sg hk (g_callO hk (hf := by kernel_rfl) (hc := hwd _) (h := ?_)); clear hk a; rintro _ w ⟨rfl, hS1⟩ a hk; replace hS := hS.call0 hS1; clear hS1
              (repeat' (first | (show wpListIn _ _ _ _ _ (_ :: _) _ _; first | (refine wx1 ?_; clear hk a; intro a hk) | (refine wx2 ?_ ?_ <;> (intro hp; clear hk a; intro a hk)) | (refine wx3 ?_; clear hk hS a; intro w b hS a hk) | (refine wx4 ?_; clear hk hS a; intro w hS a hk) | (refine wx5 ?_; clear hk hS a; intro w v hS a hk) | fail) | refine wx0 ?_ | (refine s_end hk ?_; clear hk a; intro a hk) | fail))
              refine sg hk (g_bsT (xs := [(((5 : Int), ((x : Int), (⟨#[]⟩ : ByteArray))) : TkC)]) (m := 0) hk hS ?_ (hT := eT rfl) (hE := zT rfl) (hz := oT rfl)); clear hk hS a; intro w ve hS a hk
              (repeat' (first | (show wpListIn _ _ _ _ _ (_ :: _) _ _; first | (refine wx1 ?_; clear hk a; intro a hk) | (refine wx2 ?_ ?_ <;> (intro hp; clear hk a; intro a hk)) | (refine wx3 ?_; clear hk hS a; intro w b hS a hk) | (refine wx4 ?_; clear hk hS a; intro w hS a hk) | (refine wx5 ?_; clear hk hS a; intro w v hS a hk) | fail) | refine wx0 ?_ | (refine s_end hk ?_; clear hk a; intro a hk) | fail))
              refine done1 hk (h := ?_)
              rw [tn (by rw [e]; exact .inr rfl), e, List.map_append]
              exact hS.sub (by (repeat (first | exact Sub.nil | exact Sub.refl | refine Sub.cons (by (repeat (first | exact At.here | apply At.there))) ?_)))
    · have e := te hxl
      have hxe : x = s.size := by omega
      (repeat' (first | (show wpListIn _ _ _ _ _ (_ :: _) _ _; first | (refine wx1 ?_; clear hk a; intro a hk) | (refine wx2 ?_ ?_ <;> (intro hp; clear hk a; intro a hk)) | (refine wx3 ?_; clear hk hS a; intro w b hS a hk) | (refine wx4 ?_; clear hk hS a; intro w hS a hk) | (refine wx5 ?_; clear hk hS a; intro w v hS a hk) | fail) | refine wx0 ?_ | (refine s_end hk ?_; clear hk a; intro a hk) | fail))
      refine sg hk (g_bsT (xs := [(((0 : Int), ((s.size : Int), (⟨#[]⟩ : ByteArray))) : TkC)]) (m := 0) hk hS ?_ (hT := eT rfl) (hE := zT rfl) (hz := oT rfl)); clear hk hS a; intro w ve hS a hk
      (repeat' (first | (show wpListIn _ _ _ _ _ (_ :: _) _ _; first | (refine wx1 ?_; clear hk a; intro a hk) | (refine wx2 ?_ ?_ <;> (intro hp; clear hk a; intro a hk)) | (refine wx3 ?_; clear hk hS a; intro w b hS a hk) | (refine wx4 ?_; clear hk hS a; intro w hS a hk) | (refine wx5 ?_; clear hk hS a; intro w v hS a hk) | fail) | refine wx0 ?_ | (refine s_end hk ?_; clear hk a; intro a hk) | fail))
      refine done1 hk (h := ?_)
      rw [tn (by rw [e]; exact .inl rfl), e, List.map_append]
      exact hS.sub (by (repeat (first | exact Sub.nil | exact Sub.refl | refine Sub.cons (by (repeat (first | exact At.here | apply At.there))) ?_)))
end Go.Proofs.YtipdgobplfkipaaGreatDoor
namespace Go.Proofs.YtipdgobplfkipaaGreatDoor

theorem from_good {seen more : List ByteArray} {m m' : Itm} {x : Option ByteArray} (hs : ∀ y ∈ seen, GoodK y) (hx : ∀ z, x = some z → GoodK z) (h : fromO seen (some m) x = some (m', more)) : ∀ y ∈ more, GoodK y := by
  cases x with
  | none => injection h with h; injection h with _ h; subst h; exact hs
  | some z =>
    have h' : (if seen.any (fun y => decide (y = z)) = true then none else some (m, seen ++ [z])) = some (m', more) := h
    by_cases hz : seen.any (fun y => decide (y = z)) = true
    · rw [if_pos hz] at h'; cases h'
    · rw [if_neg hz] at h'
      injection h' with h'; injection h' with _ h'; subst h'
      intro y hy
      rcases List.mem_append.1 hy with hy | hy
      · exact hs y hy
      · rw [List.mem_singleton] at hy; subst hy; exact hx y rfl
abbrev ItmEq (n : Itm) (w : ByteArray) (seen : List ByteArray) : Prop := (itemF n w seen).map toP = itmP n w (seen.map keyP) ∧ ∀ m more, itemF n w seen = some (m, more) → ∀ y ∈ more, GoodK y
theorem eq_none {n : Itm} {w : ByteArray} {seen : List ByteArray} (ha : addF n w = none) (hp : itmP n w (seen.map keyP) = none) : ItmEq n w seen := by
  have e : itemF n w seen = none := by rw [item_from, ha]; rfl
  exact ⟨by rw [e, hp]; rfl, fun m more h => by rw [e] at h; cases h⟩
theorem eq_some {n m : Itm} {w x : ByteArray} {seen : List ByteArray} (hs : ∀ y ∈ seen, GoodK y) (ha : addF n w = some m) (hx : whatF w = some x) (hg : GoodK x) (hp : itmP n w (seen.map keyP) = onceP (seen.map keyP) (some (m, keyP x))) : ItmEq n w seen := by
  have e : itemF n w seen = fromO seen (some m) (some x) := by rw [item_from, ha, hx]
  exact ⟨by rw [e, hp]; exact from_once hs hg, fun m' more h => by rw [e] at h; exact from_good hs (fun z hz => by injection hz with hz; rw [← hz]; exact hg) h⟩
theorem pre_list (c : UInt8) (x : ByteArray) : ((⟨#[c]⟩ : ByteArray) ++ x).data.toList = c :: x.data.toList := by simp [ByteArray.data_append]
theorem pre_eq (nm : ByteArray) (k : List UInt8) : ((⟨#[33]⟩ : ByteArray) ++ nm) = ⟨⟨33 :: k⟩⟩ ↔ nm = ⟨⟨k⟩⟩ := by
  constructor
  · intro e
    apply baeq
    have : ((⟨#[33]⟩ : ByteArray) ++ nm).data.toList = 33 :: k := by rw [e]
    rw [pre_list] at this
    injection this
  · intro e; subst e; apply baeq; rw [pre_list]
theorem pre_key (nm : ByteArray) : keyP ((⟨#[33]⟩ : ByteArray) ++ nm) = nm := by
  unfold keyP
  rw [pre_list]
  apply baeq
  show (⟨nm.data.toList.toArray⟩ : ByteArray).data.toList = _
  simp
theorem good33 {nm : ByteArray} {c : UInt8} {q : List UInt8} (h : nm.data.toList = c :: q) (hc : c.toNat ≠ 35 ∧ c.toNat ≠ 64 ∧ c.toNat ≠ 61 ∧ c.toNat ≠ 33) : GoodK ((⟨#[33]⟩ : ByteArray) ++ nm) :=
  .inr (.inr (.inr ⟨nm.data.toList, pre_list 33 nm, c, q, h, hc⟩))
theorem u8_of_nat {c d : UInt8} (h : c.toNat = d.toNat) : c = d := UInt8.toNat_inj.1 h

set_option maxHeartbeats 4000000 in
theorem item_eq {n : Itm} {w : ByteArray} {seen : List ByteArray} (hs : ∀ y ∈ seen, GoodK y) : ItmEq n w seen := by
  cases hw : w.data.toList with
  | nil => exact eq_none (by unfold addF; rw [hw]) (by unfold itmP; rw [hw])
  | cons c q =>
    by_cases c35 : c.toNat = 35
    · have e := u8_of_nat (d := 35) c35
      subst e
      have ha : addF n w = if keyS (w.extract 1 w.size) = true then some { n with key := w.extract 1 w.size } else none := by unfold addF; rw [hw]; simp only [if_pos c35]
      have hx : whatF w = some ⟨#[35]⟩ := by unfold whatF; rw [hw]; rfl
      have hp : itmP n w (seen.map keyP) = onceP (α := Itm) (seen.map keyP) (if keyS (w.extract 1 w.size) = true then some ({ n with key := w.extract 1 w.size }, ⟨#[35]⟩) else none) := by unfold itmP; rw [hw]; simp only [if_pos c35]
      by_cases hk : keyS (w.extract 1 w.size) = true
      · rw [if_pos hk] at ha hp
        exact eq_some hs ha hx (.inl rfl) hp
      · rw [if_neg hk] at ha hp
        exact eq_none ha hp
    · by_cases c46 : c.toNat = 46
      · have e := u8_of_nat (d := 46) c46
        subst e
        have ha : addF n w = if nameS (w.extract 1 w.size) = true then some { n with cl := n.cl ++ [w.extract 1 w.size] } else none := by unfold addF; rw [hw]; simp only [if_neg c35, if_pos c46]
        have hx : whatF w = none := by unfold whatF; rw [hw]; rfl
        have hp : itmP n w (seen.map keyP) = if nameS (w.extract 1 w.size) = true then some ({ n with cl := n.cl ++ [w.extract 1 w.size] }, seen.map keyP) else none := by unfold itmP; rw [hw]; simp only [if_neg c35, if_pos c46]
        by_cases hk : nameS (w.extract 1 w.size) = true
        · rw [if_pos hk] at ha hp
          have e : itemF n w seen = some ({ n with cl := n.cl ++ [w.extract 1 w.size] }, seen) := by rw [item_from, ha, hx]; rfl
          exact ⟨by rw [e, hp]; rfl, fun m more h => by rw [e] at h; injection h with h; injection h with _ h; subst h; exact hs⟩
        · rw [if_neg hk] at ha hp
          exact eq_none ha hp
      · by_cases c64 : c.toNat = 64
        · have e := u8_of_nat (d := 64) c64
          subst e
          have ha : addF n w = match cutE (w.extract 1 w.size) with
            | some (a, v) => if nameS a = true ∧ valS v = true then some { n with al := n.al ++ [(a, v)] } else none
            | none => none := by
            unfold addF; rw [hw]; simp only [if_neg c35, if_neg c46, if_pos c64]
            rcases cutE (w.extract 1 w.size) with _ | ⟨a, v⟩ <;> rfl
          have hx : whatF w = some (nmE w) := by unfold whatF; rw [hw]; rfl
          have hp : itmP n w (seen.map keyP) = onceP (α := Itm) (seen.map keyP) (if (cutR 61 (w.extract 1 w.size)).2.2 = true ∧ nameS (cutR 61 (w.extract 1 w.size)).1 = true ∧ valS (cutR 61 (w.extract 1 w.size)).2.1 = true then some ({ n with al := n.al ++ [((cutR 61 (w.extract 1 w.size)).1, (cutR 61 (w.extract 1 w.size)).2.1)] }, ⟨#[64]⟩ ++ (cutR 61 (w.extract 1 w.size)).1) else none) := by unfold itmP; rw [hw]; simp only [if_neg c35, if_neg c46, if_pos c64]
          rw [cutR_eq] at ha
          rw [cutR_nm, cut_cons hw (by decide)] at hx
          generalize (cutR 61 (w.extract 1 w.size)).2.2 = is at *
          generalize (cutR 61 (w.extract 1 w.size)).2.1 = va at *
          generalize (cutR 61 (w.extract 1 w.size)).1 = nm at *
          cases is with
          | false =>
            rw [if_neg (by rintro ⟨h, -⟩; cases h)] at hp
            exact eq_none ha hp
          | true =>
            rw [if_pos rfl] at ha
            by_cases hk : nameS nm = true ∧ valS va = true
            · rw [if_pos ⟨rfl, hk.1, hk.2⟩] at hp
              have ha' : addF n w = some { n with al := n.al ++ [(nm, va)] } := by rw [ha]; exact if_pos hk
              have hkp : keyP ((⟨#[64]⟩ : ByteArray) ++ nm) = ⟨#[64]⟩ ++ nm := by unfold keyP; rw [pre_list]; rfl
              exact eq_some hs ha' hx (.inr (.inl ⟨_, pre_list 64 nm⟩)) (by rw [hkp]; exact hp)
            · rw [if_neg (fun h => hk ⟨h.2.1, h.2.2⟩)] at hp
              exact eq_none (by rw [ha]; exact if_neg hk) hp
        · by_cases c33 : c.toNat = 33
          · have e := u8_of_nat (d := 33) c33
            subst e
            have hp : itmP n w (seen.map keyP) = onceP (α := Itm) (seen.map keyP) ((optP n.k n.o (w.extract 1 w.size)).map fun x => ({ n with k := x.1.1, o := x.1.2 }, x.2)) := by unfold itmP; rw [hw]; simp only [if_neg c35, if_neg c46, if_neg c64, if_pos c33]
            have ha : addF n w = addF n w := rfl
            conv at ha => rhs; unfold addF
            rw [hw] at ha
            simp only at ha
            rw [if_neg c35, if_neg c46, if_neg c64, if_pos c33] at ha
            have hx : whatF w = whatF w := rfl
            conv at hx => rhs; unfold whatF
            rw [hw] at hx
            simp only at hx
            have hnm := cutR_nm w
            have hce := cutR_eq w
            have hcc := cut_cons hw (by decide)
            have gGroup : w = wGroup ↔ w.extract 1 w.size = kGroup := mark_eq hw [103, 114, 111, 117, 112]
            have gSlot : w = wSlot ↔ w.extract 1 w.size = kSlot := mark_eq hw [115, 108, 111, 116]
            have gOutIn : w = wOutIn ↔ w.extract 1 w.size = kOutIn := mark_eq hw [111, 117, 116, 45, 105, 110]
            have gInOut : w = wInOut ↔ w.extract 1 w.size = kInOut := mark_eq hw [105, 110, 45, 111, 117, 116]
            have gAppear : w = wAppear ↔ w.extract 1 w.size = kAppear := mark_eq hw [97, 112, 112, 101, 97, 114]
            have gMoves : w = wMoves ↔ w.extract 1 w.size = kMoves := mark_eq hw [109, 111, 118, 101, 115]
            have hopt : optP n.k n.o (w.extract 1 w.size) = optP n.k n.o (w.extract 1 w.size) := rfl
            conv at hopt => rhs; unfold optP
            have nis : ∀ z, (cutR 61 z).2.2 = false → w.extract 1 w.size = z → (cutR 61 (w.extract 1 w.size)).2.2 = false := fun z h e => by rw [e]; exact h
            have iGroup := nis kGroup (by kernel_rfl)
            have iSlot := nis kSlot (by kernel_rfl)
            have iOutIn := nis kOutIn (by kernel_rfl)
            have iInOut := nis kInOut (by kernel_rfl)
            have iAppear := nis kAppear (by kernel_rfl)
            have iMoves := nis kMoves (by kernel_rfl)
            clear nis
            change whatF w = (if w = wGroup ∨ w = wSlot then some (⟨#[33]⟩ ++ kKind) else if w = wOutIn ∨ w = wInOut then some (⟨#[33]⟩ ++ kMode) else some (nmE w)) at hx
            simp only [gGroup, gSlot, gOutIn, gInOut] at hx
            simp only [gGroup, gSlot, gOutIn, gInOut, gAppear, gMoves] at ha
            rw [hcc] at hnm hce
            have hwe : w = (⟨#[33]⟩ : ByteArray) ++ w.extract 1 w.size := by
              apply baeq
              rw [pre_list, hw]
              have hsz : w.size = q.length + 1 := by have : w.data.toList.length = w.size := by simp
                                                     rw [← this, hw]; rfl
              simp [ByteArray.data_extract, hw, hsz]
            have hnc : (cutR 61 (w.extract 1 w.size)).2.2 = false → (cutR 61 (w.extract 1 w.size)).1 = w.extract 1 w.size := fun h => by
              unfold cutR at h ⊢
              split at h
              · cases h
              · rename_i hh; rw [if_neg hh]
            generalize (cutR 61 (w.extract 1 w.size)).2.2 = is at *
            generalize (cutR 61 (w.extract 1 w.size)).2.1 = va at *
            generalize (cutR 61 (w.extract 1 w.size)).1 = nm at *
            generalize optP n.k n.o (w.extract 1 w.size) = res at *
            generalize w.extract 1 w.size = r at *
            cases is with
            | true =>
              have jGroup : ¬ r = kGroup := fun e => by have := iGroup e; cases this
              have jSlot : ¬ r = kSlot := fun e => by have := iSlot e; cases this
              have jOutIn : ¬ r = kOutIn := fun e => by have := iOutIn e; cases this
              have jInOut : ¬ r = kInOut := fun e => by have := iInOut e; cases this
              have jAppear : ¬ r = kAppear := fun e => by have := iAppear e; cases this
              have jMoves : ¬ r = kMoves := fun e => by have := iMoves e; cases this
              rw [if_pos rfl] at hopt hce
              rw [if_neg jGroup, if_neg jSlot, if_neg jOutIn, if_neg jInOut, if_neg jAppear, if_neg jMoves, hce] at ha
              rw [if_neg (fun h => h.elim jGroup jSlot), if_neg (fun h => h.elim jOutIn jInOut), hnm] at hx
              simp only at ha
              have pE : (⟨#[33]⟩ : ByteArray) ++ nm = wEnter ↔ nm = kEnter := pre_eq nm [101, 110, 116, 101, 114]
              have pL : (⟨#[33]⟩ : ByteArray) ++ nm = wLeave ↔ nm = kLeave := pre_eq nm [108, 101, 97, 118, 101]
              have pM : (⟨#[33]⟩ : ByteArray) ++ nm = wMove ↔ nm = kMove := pre_eq nm [109, 111, 118, 101]
              simp only [pE, pL, pM] at ha
              by_cases hok : (numP va.data.toList).2 = true
              · rw [if_pos hok] at ha
                by_cases hkEnter : nm = kEnter
                · rw [if_pos hkEnter] at ha hopt
                  rw [if_pos hok] at hopt
                  subst hopt
                  refine eq_some hs ha hx ?_ (by rw [hp, pre_key, hkEnter]; rfl)
                  rw [hkEnter]; exact good33 (c := 101) rfl (by decide)
                · rw [if_neg hkEnter] at ha hopt
                  by_cases hkLeave : nm = kLeave
                  · rw [if_pos hkLeave] at ha hopt
                    rw [if_pos hok] at hopt
                    subst hopt
                    refine eq_some hs ha hx ?_ (by rw [hp, pre_key, hkLeave]; rfl)
                    rw [hkLeave]; exact good33 (c := 108) rfl (by decide)
                  · rw [if_neg hkLeave] at ha hopt
                    by_cases hkMove : nm = kMove
                    · rw [if_pos hkMove] at ha hopt
                      rw [if_pos hok] at hopt
                      subst hopt
                      refine eq_some hs ha hx ?_ (by rw [hp, pre_key, hkMove]; rfl)
                      rw [hkMove]; exact good33 (c := 109) rfl (by decide)
                    · rw [if_neg hkMove] at ha hopt
                      subst hopt
                      exact eq_none ha hp
              · rw [if_neg hok] at ha
                have hres : res = none := by rw [hopt]; simp only [if_neg hok, ite_self]
                subst hres
                exact eq_none ha hp
            | false =>
              rw [if_neg (by decide)] at hopt hce
              have hnr := hnc rfl
              rw [hnr] at hnm
              rw [hce] at ha
              simp only at ha
              by_cases hG : r = kGroup
              · rw [if_pos hG] at ha hopt; rw [if_pos (.inl hG)] at hx; subst hopt
                exact eq_some hs ha hx (good33 (c := 107) rfl (by decide)) (by rw [hp, pre_key]; rfl)
              by_cases hSl : r = kSlot
              · rw [if_neg hG, if_pos hSl] at ha hopt; rw [if_pos (.inr hSl)] at hx; subst hopt
                exact eq_some hs ha hx (good33 (c := 107) rfl (by decide)) (by rw [hp, pre_key]; rfl)
              rw [if_neg hG, if_neg hSl] at ha hopt
              rw [if_neg (fun h => h.elim hG hSl)] at hx
              by_cases hO : r = kOutIn
              · have hA : ¬ r = kAppear := fun e => by rw [hO] at e; exact absurd (congrArg (fun z : ByteArray => z.data.toList) e) (by decide)
                have hM : ¬ r = kMoves := fun e => by rw [hO] at e; exact absurd (congrArg (fun z : ByteArray => z.data.toList) e) (by decide)
                rw [if_pos hO] at ha; rw [if_neg hA, if_neg hM, if_pos hO] at hopt; rw [if_pos (.inl hO)] at hx; subst hopt
                exact eq_some hs ha hx (good33 (c := 109) rfl (by decide)) (by rw [hp, pre_key]; rfl)
              by_cases hI : r = kInOut
              · have hA : ¬ r = kAppear := fun e => by rw [hI] at e; exact absurd (congrArg (fun z : ByteArray => z.data.toList) e) (by decide)
                have hM : ¬ r = kMoves := fun e => by rw [hI] at e; exact absurd (congrArg (fun z : ByteArray => z.data.toList) e) (by decide)
                rw [if_neg hO, if_pos hI] at ha; rw [if_neg hA, if_neg hM, if_neg hO, if_pos hI] at hopt; rw [if_pos (.inr hI)] at hx; subst hopt
                exact eq_some hs ha hx (good33 (c := 109) rfl (by decide)) (by rw [hp, pre_key]; rfl)
              rw [if_neg hO, if_neg hI] at ha
              rw [if_neg (fun h => h.elim hO hI), hnm] at hx
              by_cases hA : r = kAppear
              · rw [if_pos hA] at ha hopt; subst hopt
                refine eq_some hs ha hx ?_ (by rw [hp, pre_key, hA]; rfl)
                rw [hA]; exact good33 (c := 97) rfl (by decide)
              by_cases hM : r = kMoves
              · rw [if_neg hA, if_pos hM] at ha hopt; subst hopt
                refine eq_some hs ha hx ?_ (by rw [hp, pre_key, hM]; rfl)
                rw [hM]; exact good33 (c := 109) rfl (by decide)
              rw [if_neg hA, if_neg hM] at ha hopt
              rw [if_neg hO, if_neg hI] at hopt
              subst hopt
              exact eq_none ha hp
          · have ne : ∀ {d : UInt8} {k : Nat}, d.toNat = k → c.toNat ≠ k → c ≠ d := fun h1 h2 e => h2 (by rw [e]; exact h1)
            have ha : addF n w = match cutE w with
              | some (a, v) => if nameS a = true ∧ (numP v.data.toList).2 = true then some { n with sl := n.sl ++ [(a, (numP v.data.toList).1)] } else none
              | none => none := by
              unfold addF; rw [hw]; simp only [if_neg c35, if_neg c46, if_neg c64, if_neg c33]
              rcases cutE w with _ | ⟨a, v⟩ <;> rfl
            have hx : whatF w = some (⟨#[61]⟩ ++ nmE w) := by
              unfold whatF; rw [hw]
              split
              · rename_i h; injection h with h _; exact absurd h (ne (d := 46) rfl c46)
              · rename_i h; injection h with h _; exact absurd h (ne (d := 35) rfl c35)
              · rename_i h; injection h with h _; exact absurd h (ne (d := 64) rfl c64)
              · rename_i h; injection h with h _; exact absurd h (ne (d := 33) rfl c33)
              · rfl
            have hp : itmP n w (seen.map keyP) = onceP (α := Itm) (seen.map keyP) (if (cutR 61 w).2.2 = true ∧ (numP (cutR 61 w).2.1.data.toList).2 = true ∧ nameS (cutR 61 w).1 = true then some ({ n with sl := n.sl ++ [((cutR 61 w).1, (numP (cutR 61 w).2.1.data.toList).1)] }, ⟨#[61]⟩ ++ (cutR 61 w).1) else none) := by
              unfold itmP; rw [hw]; simp only [if_neg c35, if_neg c46, if_neg c64, if_neg c33]
            rw [cutR_eq] at ha
            rw [cutR_nm] at hx
            generalize (cutR 61 w).2.2 = is at *
            generalize (cutR 61 w).2.1 = va at *
            generalize (cutR 61 w).1 = nm at *
            cases is with
            | false =>
              rw [if_neg (by rintro ⟨h, -⟩; cases h)] at hp
              exact eq_none ha hp
            | true =>
              rw [if_pos rfl] at ha
              by_cases hk : nameS nm = true ∧ (numP va.data.toList).2 = true
              · rw [if_pos ⟨rfl, hk.2, hk.1⟩] at hp
                have ha' : addF n w = some { n with sl := n.sl ++ [(nm, (numP va.data.toList).1)] } := by rw [ha]; exact if_pos hk
                have hkp : keyP ((⟨#[61]⟩ : ByteArray) ++ nm) = ⟨#[61]⟩ ++ nm := by unfold keyP; rw [pre_list]; rfl
                exact eq_some hs ha' hx (.inr (.inr (.inl ⟨_, pre_list 61 nm⟩))) (by rw [hkp]; exact hp)
              · rw [if_neg (fun h => hk ⟨h.2.2, h.2.1⟩)] at hp
                exact eq_none (by rw [ha]; exact if_neg hk) hp
end Go.Proofs.YtipdgobplfkipaaGreatDoor
namespace Go.Proofs.YtipdgobplfkipaaGreatDoor

theorem tok_at_ {s : ByteArray} {i : Nat} (hi : i ≤ s.size) : (tokF s i).at_ = scan blkB s i := by
  by_cases hj : scan blkB s i < s.size
  · by_cases n1 : s[scan blkB s i].toNat = 40
    · rw [tok_1 hj n1]
    · by_cases n2 : s[scan blkB s i].toNat = 41
      · rw [tok_2 hj n2]
      · by_cases n3 : s[scan blkB s i].toNat = 39
        · by_cases n4 : scan nqB s (scan blkB s i + 1) < s.size ∧ (s.extract (scan blkB s i + 1) (scan nqB s (scan blkB s i + 1))).data.toList.all priL = true
          · rw [tok_3 hj n3 n4]
          · rw [tok_5 hj n3 n4]
        · by_cases hv : visB s[scan blkB s i] = true
          · rw [tok_4 hj hv]
          · rw [tok_6 hj n1 n2 n3 hv]
  · have h1 := scan_le blkB s _ i (Nat.le_refl _) hi
    rw [tok_e hj]; show s.size = _; omega
theorem tok_else {s : ByteArray} {i : Nat} (h : ∀ hj : scan blkB s i < s.size, s[scan blkB s i].toNat ≠ 39 ∧ s[scan blkB s i].toNat ≠ 40 ∧ s[scan blkB s i].toNat ≠ 41) :
    (tokF s i).kind ≠ 1 ∧ (tokF s i).kind ≠ 2 ∧ (tokF s i).kind ≠ 3 := by
  by_cases hj : scan blkB s i < s.size
  · obtain ⟨n3, n1, n2⟩ := h hj
    by_cases hv : visB s[scan blkB s i] = true
    · rw [tok_4 hj hv]; exact ⟨by show (4 : Nat) ≠ _; decide, by show (4 : Nat) ≠ _; decide, by show (4 : Nat) ≠ _; decide⟩
    · rw [tok_6 hj n1 n2 n3 hv]; exact ⟨by show (5 : Nat) ≠ _; decide, by show (5 : Nat) ≠ _; decide, by show (5 : Nat) ≠ _; decide⟩
  · rw [tok_e hj]; exact ⟨by show (0 : Nat) ≠ _; decide, by show (0 : Nat) ≠ _; decide, by show (0 : Nat) ≠ _; decide⟩
theorem tok_q {s : ByteArray} {i : Nat} (hj : scan blkB s i < s.size) (n3 : s[scan blkB s i].toNat = 39) : (tokF s i).kind = 3 ∨ (tokF s i).kind = 5 := by
  by_cases n4 : scan nqB s (scan blkB s i + 1) < s.size ∧ (s.extract (scan blkB s i + 1) (scan nqB s (scan blkB s i + 1))).data.toList.all priL = true
  · rw [tok_3 hj n3 n4]; exact .inl rfl
  · rw [tok_5 hj n3 n4]; exact .inr rfl
theorem tok_w {s : ByteArray} {i : Nat} (hi : i ≤ s.size) (h : (tokF s i).kind = 4) : 0 < (tokF s i).txt.size ∧ (tokF s i).txt.size ≤ s.size := by
  have hge := scan_ge visB s _ (scan blkB s i) (Nat.le_refl _)
  have hle := scan_le visB s _ (scan blkB s i) (Nat.le_refl _) (scan_le blkB s _ i (Nat.le_refl _) hi)
  by_cases hlt : scan blkB s i < scan visB s (scan blkB s i)
  · rw [tok_word hlt]
    simp only [ByteArray.size_extract]
    omega
  · exact absurd h (tok_noword hi (by omega)).1
theorem view_scan (s : ByteArray) (f i op : Nat) : viewF s (f + 1) (scan blkB s i) op = viewF s (f + 1) i op := by
  simp only [viewF]
  rw [tok_scan]
theorem some_len {n m x : Itm} (h : some x = some m) (hx : x.cl.length ≤ n.cl.length + 1 ∧ x.al.length ≤ n.al.length + 1 ∧ x.sl.length ≤ n.sl.length + 1) : m.cl.length ≤ n.cl.length + 1 ∧ m.al.length ≤ n.al.length + 1 ∧ m.sl.length ≤ n.sl.length + 1 := by
  injection h with h; subst h; exact hx
theorem ite_len {n m x : Itm} {p : Prop} [Decidable p] {r : Option Itm} (h : (if p then some x else r) = some m) (hx : x.cl.length ≤ n.cl.length + 1 ∧ x.al.length ≤ n.al.length + 1 ∧ x.sl.length ≤ n.sl.length + 1)
    (hr : r = some m → m.cl.length ≤ n.cl.length + 1 ∧ m.al.length ≤ n.al.length + 1 ∧ m.sl.length ≤ n.sl.length + 1) : m.cl.length ≤ n.cl.length + 1 ∧ m.al.length ≤ n.al.length + 1 ∧ m.sl.length ≤ n.sl.length + 1 := by
  by_cases hp : p
  · rw [if_pos hp] at h; exact some_len h hx
  · rw [if_neg hp] at h; exact hr h
theorem add_len {n m : Itm} {w : ByteArray} (h : addF n w = some m) : m.cl.length ≤ n.cl.length + 1 ∧ m.al.length ≤ n.al.length + 1 ∧ m.sl.length ≤ n.sl.length + 1 := by
  have no : (none : Option Itm) = some m → m.cl.length ≤ n.cl.length + 1 ∧ m.al.length ≤ n.al.length + 1 ∧ m.sl.length ≤ n.sl.length + 1 := fun h => by cases h
  unfold addF at h
  cases hw : w.data.toList with
  | nil => rw [hw] at h; cases h
  | cons c q =>
    rw [hw] at h
    simp only at h
    by_cases h35 : c.toNat = 35
    · rw [if_pos h35] at h; exact ite_len h (by simp) no
    · rw [if_neg h35] at h
      by_cases h46 : c.toNat = 46
      · rw [if_pos h46] at h; exact ite_len h (by simp) no
      · rw [if_neg h46] at h
        by_cases h64 : c.toNat = 64
        · rw [if_pos h64] at h
          cases hc : cutE (w.extract 1 w.size) with
          | none => rw [hc] at h; cases h
          | some y => obtain ⟨a, v⟩ := y; rw [hc] at h; exact ite_len h (by simp) no
        · rw [if_neg h64] at h
          by_cases h33 : c.toNat = 33
          · rw [if_pos h33] at h
            refine ite_len h (by simp) (fun h => ite_len h (by simp) (fun h => ite_len h (by simp) (fun h => ite_len h (by simp) (fun h => ite_len h (by simp) (fun h => ite_len h (by simp) (fun h => ?_))))))
            cases hc : cutE w with
            | none => rw [hc] at h; cases h
            | some y =>
              obtain ⟨a, v⟩ := y
              rw [hc] at h
              simp only at h
              by_cases hk : (numP v.data.toList).2 = true
              · rw [if_pos hk] at h
                exact ite_len h (by simp) (fun h => ite_len h (by simp) (fun h => ite_len h (by simp) no))
              · rw [if_neg hk] at h; cases h
          · rw [if_neg h33] at h
            cases hc : cutE w with
            | none => rw [hc] at h; cases h
            | some y => obtain ⟨a, v⟩ := y; rw [hc] at h; exact ite_len h (by simp) no
theorem item_len {n m : Itm} {w : ByteArray} {seen more : List ByteArray} (h : itemF n w seen = some (m, more)) : m.cl.length ≤ n.cl.length + 1 ∧ m.al.length ≤ n.al.length + 1 ∧ m.sl.length ≤ n.sl.length + 1 := by
  rw [item_from] at h
  cases ha : addF n w with
  | none => rw [ha] at h; cases h
  | some y =>
    rw [ha] at h
    have : y = m := by
      cases hx : whatF w with
      | none => rw [hx] at h; injection h with h; injection h
      | some z =>
        rw [hx] at h
        have h' : (if seen.any (fun y => decide (y = z)) = true then none else some (y, seen ++ [z])) = some (m, more) := h
        split at h'
        · cases h'
        · injection h' with h'; injection h'
    subst this
    exact add_len ha
mutual
def snapT : Tree → Tree
  | .mk k tag key text cl al sl o kids => .mk k tag key text cl (snapF nmS al) (snapF nmI sl) o (snapTs kids)
def snapTs : List Tree → List Tree
  | [] => []
  | t :: ts => snapT t :: snapTs ts
end
theorem snapTs_app : ∀ (a b : List Tree), snapTs (a ++ b) = snapTs a ++ snapTs b
  | [], b => rfl
  | t :: a, b => by rw [List.cons_append, snapTs, snapTs, snapTs_app a b]; rfl
theorem snapTs_len : ∀ a : List Tree, (snapTs a).length = a.length
  | [] => rfl
  | t :: a => by rw [snapTs, List.length_cons, snapTs_len a, List.length_cons]
end Go.Proofs.YtipdgobplfkipaaGreatDoor
