/- Layer 8: the program's reader: a view. Layer 8: Parse: what it defers; a text's view, or what is wrong first, and where. Layer 8: Parse: a text's view, or what is wrong first, and where. Layer 8, plain: how a view is written. A strings.Builder that a call has made itself. A strings.Builder that is written: what its methods do. A strings.Builder's methods, and strings.Join with blanks, as steps of a call. Layer 8, plain: how a view is written: its pieces, and how long they are. Layer 8: how options are written: the program. -/
import Derived.Test.YtipdgobplfkipaaGreatDoorP13
import Derived.Test.YtipdgobplfkipaaGreatDoorP07
import Derived.Shelf.Strings.Builder1
import Derived.Test.YtipdgobplfkipaaGreatDoorP12
import Derived.Lib.ItoaLen
import Derived.Test.YtipdgobplfkipaaGreatDoorP10
set_option linter.all false
namespace Go.Proofs.YtipdgobplfkipaaGreatDoor
open Go.RowKit
set_option maxRecDepth 100000
attribute [local irreducible] Go.Code.wpIn Go.wpListIn Go.Calls Gives Go.Exit.then Go.Exit.inBlock Done ObxE

theorem view_all : ∀ f, VC f := by
  intro f
  induction f using Nat.strongRecOn with
  | _ f ih =>
  intro br s i op B L w hs hi hop hf hS
  obtain ⟨m, rfl⟩ : ∃ m, f = m + 1 := ⟨f - 1, by omega⟩
  have ihm : ∀ x, x < m → VC x := fun x hx => ih x (Nat.lt_succ_of_lt hx)
  have hat := tok_at_ hi
  have hle := scan_le blkB s _ i (Nat.le_refl _) hi
  have hge := scan_ge blkB s _ i (Nat.le_refl _)
  have hsk := tok_scan s i
  have hel := tok_else (s := s) (i := i)
  have h2 := @tok_2 s i
  have h1 := @tok_1 s i
  have hR : viewF s (m + 1) i op = viewF s (m + 1) i op := rfl
  conv at hR => rhs; simp only [viewF]
  refine enterP Tryz.func23 rfl Tryz.ntmps23 rfl (fun a hk => ?_)
  generalize viewF s (m + 1) i op = R0 at *
  (repeat' (first | (show wpListIn _ _ _ _ _ (_ :: _) _ _; first | (refine wx1 ?_; clear hk a; intro a hk) | (refine wx2 ?_ ?_ <;> (intro hp; clear hk a; intro a hk)) | (refine wx3 ?_; clear hk hS a; intro w b hS a hk) | (refine wx4 ?_; clear hk hS a; intro w hS a hk) | (refine wx5 ?_; clear hk hS a; intro w v hS a hk) | fail) | refine wx0 ?_ | (refine s_end hk ?_; clear hk a; intro a hk) | fail))
  rename Nat => b2
  refine sg hk (g_callO hk (hf := by kernel_rfl) (hc := next_any br s i op (by omega) hi (hS.sub (.cons (by (repeat (first | exact At.here | apply At.there))) .refl))) (h := ?_)); clear hk hS a; intro vr w hS a hk
  obtain ⟨rfl, hS⟩ := hS
  generalize scan blkB s i = q at *
  by_cases h39 : ∃ h : q < s.size, s[q].toNat = 39
  · obtain ⟨hql, hqb⟩ := h39
    have hnx : nextB s q = 39 := by rw [nextB_is hql, hqb]; rfl
    rw [hnx] at hk
    (repeat' (first | (show wpListIn _ _ _ _ _ (_ :: _) _ _; first | (refine wx1 ?_; clear hk a; intro a hk) | (refine wx2 ?_ ?_ <;> (intro hp; clear hk a; intro a hk)) | (refine wx3 ?_; clear hk hS a; intro w b hS a hk) | (refine wx4 ?_; clear hk hS a; intro w hS a hk) | (refine wx5 ?_; clear hk hS a; intro w v hS a hk) | fail) | refine wx0 ?_ | (refine s_end hk ?_; clear hk a; intro a hk) | fail))
    refine sgP hk ((g_callP hk (hf := by kernel_rfl) (hc := rtext_any br s q op (by omega) hql hqb (hS.sub (.cons (by (repeat (first | exact At.here | apply At.there))) .refl)))).mono (fun v w h => ?_) (fun ch w h => ?_))
    rotate_left
    · clear hk hS a
      intro a hk
      rw [hsk] at h
      obtain ⟨h5, rfl, hS⟩ := h
      rw [if_neg (by omega), if_neg (by omega)] at hR
      (repeat (first | refine then_panic ?_ | refine inBlock_panic ?_))
      exact DoneP.panic hk ⟨_, 2, hR, rfl, hS.sub (by (repeat (first | exact Sub.refl | apply Sub.under)))⟩
    · clear hk hS a
      intro a hk
      rw [hsk] at h
      obtain ⟨h3, hS⟩ := h
      rw [if_pos h3] at hR
      obtain ⟨⟨k2, tag2, key2, text2, ⟨x12, x22, x32⟩, ⟨y12, y22, y32⟩, ⟨z12, z22, z32⟩, ⟨e2, lv2, m2, d2, p2, q2⟩, ⟨u12, u22, u32⟩⟩, rfl, hS1⟩ := St.tree hS .here
      clear hS
      have hS := hS1
      clear hS1
      (repeat' (first | (show wpListIn _ _ _ _ _ (_ :: _) _ _; first | (refine wx1 ?_; clear hk a; intro a hk) | (refine wx2 ?_ ?_ <;> (intro hp; clear hk a; intro a hk)) | (refine wx3 ?_; clear hk hS a; intro w b hS a hk) | (refine wx4 ?_; clear hk hS a; intro w hS a hk) | (refine wx5 ?_; clear hk hS a; intro w v hS a hk) | fail) | refine wx0 ?_ | (refine s_end hk ?_; clear hk a; intro a hk) | fail))
      refine DoneP.ret (done1R hk rfl (.str hS (hT := aT rfl) (hs := zT rfl)) (h := ⟨_, _, hR, ?_⟩))
      rw [snapT]
      exact treeH.of (h := (k2, tag2, key2, text2, ⟨x12, x22, x32⟩, ⟨y12, y22, y32⟩, ⟨z12, z22, z32⟩, (e2, lv2, m2, d2, p2, q2), ⟨u12, u22, u32⟩)) (hS.sub (.cons (by (repeat (first | exact At.here | apply At.there))) (.cons (by (repeat (first | exact At.here | apply At.there))) (by (repeat (first | exact Sub.refl | apply Sub.under))))))
  · by_cases h40 : ∃ h : q < s.size, s[q].toNat = 40
    · obtain ⟨hql, hqb⟩ := h40
      have hnx : nextB s q = 40 := by rw [nextB_is hql, hqb]; rfl
      rw [hnx] at hk
      have ht := h1 hql hqb
      have hfm : 2 * (s.size - q) + 1 ≤ m := by clear hel h1 h2 h39; omega
      rw [ht] at hR
      have hE : R0 = eleF s m q op := hR
      rw [hE]
      (repeat' (first | (show wpListIn _ _ _ _ _ (_ :: _) _ _; first | (refine wx1 ?_; clear hk a; intro a hk) | (refine wx2 ?_ ?_ <;> (intro hp; clear hk a; intro a hk)) | (refine wx3 ?_; clear hk hS a; intro w b hS a hk) | (refine wx4 ?_; clear hk hS a; intro w hS a hk) | (refine wx5 ?_; clear hk hS a; intro w v hS a hk) | fail) | refine wx0 ?_ | (refine s_end hk ?_; clear hk a; intro a hk) | fail))
      refine sgP hk ((g_callP hk (hf := by kernel_rfl) (hc := elem_any m ihm br s q op B _ _ hs hql hqb hop hfm (hS.sub (.cons (by (repeat (first | exact At.here | apply At.there))) .refl)))).mono (fun v w h => ?_) (fun ch w h => ?_))
      rotate_left
      · clear hk hS a
        intro a hk
        obtain ⟨p, e, hp, rfl, hS⟩ := h
        (repeat (first | refine then_panic ?_ | refine inBlock_panic ?_))
        exact DoneP.panic hk ⟨p, e, hp, rfl, hS.sub (by (repeat (first | exact Sub.refl | apply Sub.under)))⟩
      · clear hk hS a
        intro a hk
        obtain ⟨t, r, hok, hS⟩ := h
        obtain ⟨⟨k2, tag2, key2, text2, ⟨x12, x22, x32⟩, ⟨y12, y22, y32⟩, ⟨z12, z22, z32⟩, ⟨e2, lv2, m2, d2, p2, q2⟩, ⟨u12, u22, u32⟩⟩, rfl, hS1⟩ := St.tree hS .here
        clear hS
        have hS := hS1
        clear hS1
        (repeat' (first | (show wpListIn _ _ _ _ _ (_ :: _) _ _; first | (refine wx1 ?_; clear hk a; intro a hk) | (refine wx2 ?_ ?_ <;> (intro hp; clear hk a; intro a hk)) | (refine wx3 ?_; clear hk hS a; intro w b hS a hk) | (refine wx4 ?_; clear hk hS a; intro w hS a hk) | (refine wx5 ?_; clear hk hS a; intro w v hS a hk) | fail) | refine wx0 ?_ | (refine s_end hk ?_; clear hk a; intro a hk) | fail))
        refine DoneP.ret (done1R hk rfl (.str hS (hT := aT rfl) (hs := zT rfl)) (h := ⟨_, _, hok, ?_⟩))
        exact treeH.of (h := (k2, tag2, key2, text2, ⟨x12, x22, x32⟩, ⟨y12, y22, y32⟩, ⟨z12, z22, z32⟩, (e2, lv2, m2, d2, p2, q2), ⟨u12, u22, u32⟩)) (hS.sub (.cons (by (repeat (first | exact At.here | apply At.there))) (.cons (by (repeat (first | exact At.here | apply At.there))) (by (repeat (first | exact Sub.refl | apply Sub.under))))))
    · have n39 : nextB s q ≠ 39 := by
        by_cases hql : q < s.size
        · rw [nextB_is hql]; intro h; exact h39 ⟨hql, by omega⟩
        · rw [nextB_no hql]; decide
      have n40 : nextB s q ≠ 40 := by
        by_cases hql : q < s.size
        · rw [nextB_is hql]; intro h; exact h40 ⟨hql, by omega⟩
        · rw [nextB_no hql]; decide
      have hk13 : (tokF s i).kind ≠ 1 ∧ (tokF s i).kind ≠ 3 := by
        by_cases h41 : ∃ h : q < s.size, s[q].toNat = 41
        · obtain ⟨hql, hqb⟩ := h41
          rw [h2 hql hqb]; exact ⟨by show (2 : Nat) ≠ 1; decide, by show (2 : Nat) ≠ 3; decide⟩
        · have := hel (fun hql => ⟨fun h => h39 ⟨hql, h⟩, fun h => h40 ⟨hql, h⟩, fun h => h41 ⟨hql, h⟩⟩)
          exact ⟨this.1, this.2.2⟩
      rw [if_neg hk13.2, if_neg hk13.1, hat] at hR
      (repeat' (first | (show wpListIn _ _ _ _ _ (_ :: _) _ _; first | (refine wx1 ?_; clear hk a; intro a hk) | (refine wx2 ?_ ?_ <;> (intro hp; clear hk a; intro a hk)) | (refine wx3 ?_; clear hk hS a; intro w b hS a hk) | (refine wx4 ?_; clear hk hS a; intro w hS a hk) | (refine wx5 ?_; clear hk hS a; intro w v hS a hk) | fail) | refine wx0 ?_ | (refine s_end hk ?_; clear hk a; intro a hk) | fail))
      refine sgP hk ((g_callP hk (hf := by kernel_rfl) (hc := fail_any q 2 _)).mono (fun v w h => h.elim) (fun ch w h a hk => ?_))
      obtain ⟨rfl, hS1⟩ := h
      (repeat (first | refine then_panic ?_ | refine inBlock_panic ?_))
      exact DoneP.panic hk ⟨_, 2, hR, rfl, (hS.call0 hS1).sub (by (repeat (first | exact Sub.refl | apply Sub.under)))⟩
end Go.Proofs.YtipdgobplfkipaaGreatDoor
namespace Go.Proofs.YtipdgobplfkipaaGreatDoor
open Go.RowKit
set_option maxRecDepth 100000
attribute [local irreducible] Go.Code.wpIn Go.wpListIn Go.Calls Gives Go.Exit.then Go.Exit.inBlock Done ObxE

section
variable {B : Bs} {L : List HP} {w : World}
abbrev varsL (b1 b2 b3 : Nat) (ns : List Value) (p e : Int) (L : List HP) : List HP := pts b1 ns 33 :: pts b2 [.int .i64 p] 3 :: pts b3 [.int .i64 e] 34 :: L
theorem catch_idle (b1 b2 b3 : Nat) (ns : List Value) (p e : Int) (hS : St B (varsL b1 b2 b3 ns p e L) w) :
    CallsDIn Fence.wide 0 Tryz.prog 22 #[.pointer (some ⟨b1, 0, none⟩), .pointer (some ⟨b2, 0, none⟩), .pointer (some ⟨b3, 0, none⟩)] .returning w
      (fun en u w' => (∃ v, en = .returned v) ∧ settle u = .returning ∧ St B (varsL b1 b2 b3 ns p e L) w') := by
  refine enterR (args := [.pointer (some ⟨b1, 0, none⟩), .pointer (some ⟨b2, 0, none⟩), .pointer (some ⟨b3, 0, none⟩)]) Tryz.func22 rfl Tryz.ntmps22 rfl (fun a c₀ cs hu hk => ?_)
  refine wpSIn_seq ?_
  refine q_rec0 hu hk rfl rfl rfl (fun a hk => ?_)
  refine q_rest (u := .returning) (R2 := fun w' => St B (varsL b1 b2 b3 ns p e L) w') (by cases c₀; simp only at hu; subst hu; rfl) (fun v w h => ⟨⟨_, rfl⟩, rfl, h⟩) ?_
  (repeat' (first | (show wpListIn _ _ _ _ _ (_ :: _) _ _; first | (refine wx1 ?_; clear hk a; intro a hk) | (refine wx2 ?_ ?_ <;> (intro hp; clear hk a; intro a hk)) | (refine wx3 ?_; clear hk hS a; intro w b hS a hk) | (refine wx4 ?_; clear hk hS a; intro w hS a hk) | (refine wx5 ?_; clear hk hS a; intro w v hS a hk) | fail) | refine wx0 ?_ | (refine s_end hk ?_; clear hk a; intro a hk) | fail))
  refine sg hk (g_asN hk ?_ Tryz.underlying65 (oT rfl)); clear hk a; intro a hk
  (repeat' (first | (show wpListIn _ _ _ _ _ (_ :: _) _ _; first | (refine wx1 ?_; clear hk a; intro a hk) | (refine wx2 ?_ ?_ <;> (intro hp; clear hk a; intro a hk)) | (refine wx3 ?_; clear hk hS a; intro w b hS a hk) | (refine wx4 ?_; clear hk hS a; intro w hS a hk) | (refine wx5 ?_; clear hk hS a; intro w v hS a hk) | fail) | refine wx0 ?_ | (refine s_end hk ?_; clear hk a; intro a hk) | fail))
  refine sg hk (g_neI hk ?_ (by kernel_rfl)); clear hk a; intro a hk
  (repeat' (first | (show wpListIn _ _ _ _ _ (_ :: _) _ _; first | (refine wx1 ?_; clear hk a; intro a hk) | (refine wx2 ?_ ?_ <;> (intro hp; clear hk a; intro a hk)) | (refine wx3 ?_; clear hk hS a; intro w b hS a hk) | (refine wx4 ?_; clear hk hS a; intro w hS a hk) | (refine wx5 ?_; clear hk hS a; intro w v hS a hk) | fail) | refine wx0 ?_ | (refine s_end hk ?_; clear hk a; intro a hk) | fail))
  exact done0n hk rfl (h := hS.sub (.cons (by (repeat (first | exact At.here | apply At.there))) (.cons (by (repeat (first | exact At.here | apply At.there))) (.cons (by (repeat (first | exact At.here | apply At.there))) (by (repeat (first | exact Sub.refl | apply Sub.under)))))))
theorem catch_panic (b1 b2 b3 : Nat) (ns : List Value) (hns : ns.length = 14) (p e : Int) (q : Nat) (c : Int) (hS : St B (varsL b1 b2 b3 ns p e L) w) :
    CallsDIn Fence.wide 0 Tryz.prog 22 #[.pointer (some ⟨b1, 0, none⟩), .pointer (some ⟨b2, 0, none⟩), .pointer (some ⟨b3, 0, none⟩)] (.panicking (thrown q c)) w
      (fun en u w' => (∃ v, en = .returned v) ∧ settle u = .returning ∧ St B (varsL b1 b2 b3 nd0 q c L) w') := by
  refine enterR (args := [.pointer (some ⟨b1, 0, none⟩), .pointer (some ⟨b2, 0, none⟩), .pointer (some ⟨b3, 0, none⟩)]) Tryz.func22 rfl Tryz.ntmps22 rfl (fun a c₀ cs hu hk => ?_)
  refine wpSIn_seq ?_
  refine q_rec1 hu hk rfl rfl rfl (fun a hk => ?_)
  refine q_rest (u := .panicking [{ v := .iface 65 (.agg #[.int .i64 (q : Int), .int .i64 c]), recovered := true }]) (R2 := fun w' => St B (varsL b1 b2 b3 nd0 q c L) w') rfl (fun v w h => ⟨⟨_, rfl⟩, rfl, h⟩) ?_
  (repeat' (first | (show wpListIn _ _ _ _ _ (_ :: _) _ _; first | (refine wx1 ?_; clear hk a; intro a hk) | (refine wx2 ?_ ?_ <;> (intro hp; clear hk a; intro a hk)) | (refine wx3 ?_; clear hk hS a; intro w b hS a hk) | (refine wx4 ?_; clear hk hS a; intro w hS a hk) | (refine wx5 ?_; clear hk hS a; intro w v hS a hk) | fail) | refine wx0 ?_ | (refine s_end hk ?_; clear hk a; intro a hk) | fail))
  refine sg hk (g_asY hk ?_ Tryz.underlying65); clear hk a; intro a hk
  obtain ⟨n1, n2, n3, n4, n5, n6, n7, n8, n9, n10, n11, n12, n13, n14, rfl⟩ : ∃ n1 n2 n3 n4 n5 n6 n7 n8 n9 n10 n11 n12 n13 n14, ns = [n1, n2, n3, n4, n5, n6, n7, n8, n9, n10, n11, n12, n13, n14] := by
    match ns, hns with
    | [n1, n2, n3, n4, n5, n6, n7, n8, n9, n10, n11, n12, n13, n14], _ => exact ⟨n1, n2, n3, n4, n5, n6, n7, n8, n9, n10, n11, n12, n13, n14, rfl⟩
  (repeat' (first | (show wpListIn _ _ _ _ _ (_ :: _) _ _; first | (refine wx1 ?_; clear hk a; intro a hk) | (refine wx2 ?_ ?_ <;> (intro hp; clear hk a; intro a hk)) | (refine wx3 ?_; clear hk hS a; intro w b hS a hk) | (refine wx4 ?_; clear hk hS a; intro w hS a hk) | (refine wx5 ?_; clear hk hS a; intro w v hS a hk) | fail) | refine wx0 ?_ | (refine s_end hk ?_; clear hk a; intro a hk) | fail))
  replace hS := hS.sub (L' := pts b1 [n1, n2, n3, n4, n5, n6, n7, n8, n9, n10, n11, n12, n13, n14] 33 :: pts b2 [.int .i64 p] 3 :: _) (.cons (by (repeat (first | exact At.here | apply At.there))) (.cons (by (repeat (first | exact At.here | apply At.there))) .refl))
  refine wp_drawnU2 7 mixed (by kernel_rfl) hk hS ?_; clear hk hS a
  (repeat' (first | (show ObxE _ _ _ _ _ _ _ _ _ (_ :: _) _ _ _; first | refine ox1 ?_ | (refine ox2 ?_ ?_ <;> intro hp) | fail) | fail))
  refine' obe_upd (pts b1 [n1, n2, n3, n4, n5, n6, n7, n8, n9, n10, n11, n12, n13, n14] 33) (V := fun _ => pts b1 nd0 33) (fun us a w X hk hd hS hL => ?_) ?_
  · have hk := Kn.vw hk (by repeat (first | exact VW.nil | apply VW.val rfl | apply VW.base rfl rfl | apply VW.res rfl | apply VW.upd rfl | apply VW.cpy rfl | apply VW.dep rfl | apply VW.fn rfl | apply VW.lnd rfl | apply VW.tak rfl))
    exact g_store hk hS (fun w' hS' => hS') (hsz := zT rfl)
  refine' obe_upd (pts b2 [.int .i64 p] 3) (V := fun _ => pts b2 [.int .i64 q] 3) (fun us a w X hk hd hS hL => ?_) ?_
  · have hk := Kn.vw hk (by repeat (first | exact VW.nil | apply VW.val rfl | apply VW.base rfl rfl | apply VW.res rfl | apply VW.upd rfl | apply VW.cpy rfl | apply VW.dep rfl | apply VW.fn rfl | apply VW.lnd rfl | apply VW.tak rfl))
    exact g_store hk hS (fun w' hS' => hS') (hsz := zT rfl)
  refine obe_nil ⟨rfl, ?_⟩; intro us a w hk hS
  simp only [resE, List.cons_append, List.nil_append, Nat.zero_add, Nat.reduceAdd] at hS
  (repeat' (first | (show wpListIn _ _ _ _ _ (_ :: _) _ _; first | (refine wx1 ?_; clear hk a; intro a hk) | (refine wx2 ?_ ?_ <;> (intro hp; clear hk a; intro a hk)) | (refine wx3 ?_; clear hk hS a; intro w b hS a hk) | (refine wx4 ?_; clear hk hS a; intro w hS a hk) | (refine wx5 ?_; clear hk hS a; intro w v hS a hk) | fail) | refine wx0 ?_ | (refine s_end hk ?_; clear hk a; intro a hk) | fail))
  exact done0n hk rfl (h := hS.sub (.cons (by (repeat (first | exact At.here | apply At.there))) (.cons (by (repeat (first | exact At.here | apply At.there))) (.cons (by (repeat (first | exact At.here | apply At.there))) (by (repeat (first | exact Sub.refl | apply Sub.under)))))))
end
end Go.Proofs.YtipdgobplfkipaaGreatDoor
namespace Go.Proofs.YtipdgobplfkipaaGreatDoor
open Go.RowKit
set_option maxRecDepth 100000
attribute [local irreducible] Go.Code.wpIn Go.wpListIn Go.Calls Gives Go.Exit.then Go.Exit.inBlock Done ObxE

theorem tok_ne0 {s : ByteArray} {i : Nat} (hj : scan blkB s i < s.size) : (tokF s i).kind ≠ 0 := by
  by_cases n1 : s[scan blkB s i].toNat = 40
  · rw [tok_1 hj n1]; show (1 : Nat) ≠ 0; decide
  · by_cases n2 : s[scan blkB s i].toNat = 41
    · rw [tok_2 hj n2]; show (2 : Nat) ≠ 0; decide
    · by_cases n3 : s[scan blkB s i].toNat = 39
      · rcases tok_q hj n3 with h | h <;> rw [h] <;> decide
      · by_cases hv : visB s[scan blkB s i] = true
        · rw [tok_4 hj hv]; show (4 : Nat) ≠ 0; decide
        · rw [tok_6 hj n1 n2 n3 hv]; show (5 : Nat) ≠ 0; decide
section
variable {P : Program} {a : Act} {w : World} {n : Nat} {l : List (Nat × Value)} {df : List Deferred} {fn : Func}
theorem res3 {r r' r'' : ResultVar} {v v' v'' : Value} (hk : Kn df n a l) (hr : fn.results = #[r, r', r'']) (h1 : ResV P l w r v) (h2 : ResV P l w r' v') (h3 : ResV P l w r'' v'') : (results fn a.tmps).run P w = .ok (.tuple #[v, v', v'']) w := by
  have e1 := h1.run hk
  have e2 := h2.run hk
  have e3 := h3.run hk
  rw [results_rv, hr]
  simp [e1, e2, e3]
end
theorem inv_fn {P : Program} {w : World} {f : FuncId} {cap : Array Value} (hf : callable P f = true) : (invoke (.fn (.func f) cap) #[]).run P w = .ok (.enter f cap) w := by
  have e : (#[] ++ cap : Array Value) = cap := by simp
  simp only [invoke]
  rw [e]
  exact callFunc_run hf
def ParseR (B : Bs) (L : List HP) (r : Rd Tree) (v : Value) (w : World) : Prop := match r with
  | .ok t _ => ∃ u, v = .tuple #[u, .int .i64 0, .int .i64 0] ∧ St B (treeH (snapT t) u :: L) w
  | .no p e => v = .tuple #[.agg nd0.toArray, .int .i64 (p : Int), .int .i64 e] ∧ St B L w
section
variable {B : Bs} {L : List HP} {w : World}
set_option maxHeartbeats 4000000 in
theorem parseL_any (s : ByteArray) (hs : s.size ≤ 100000000) (hS : St B L w) : Calls Tryz.prog 9 #[.string s] w (Ret (ParseR B L (parseF s))) := by
  refine enterD Tryz.func9 rfl Tryz.ntmps9 rfl (fun a hk => ?_)
  by_cases hbig : 20000 < s.size
  · have hR : parseF s = .no 0 3 := by unfold parseF; rw [if_pos hbig]
    rw [hR]
    (repeat' (first | (show wpListIn _ _ _ _ _ (_ :: _) _ _; first | (refine wx1 ?_; clear hk a; intro a hk) | (refine wx2 ?_ ?_ <;> (intro hp; clear hk a; intro a hk)) | (refine wx3 ?_; clear hk hS a; intro w b hS a hk) | (refine wx4 ?_; clear hk hS a; intro w hS a hk) | (refine wx5 ?_; clear hk hS a; intro w v hS a hk) | fail) | refine wx0 ?_ | (refine s_end hk ?_; clear hk a; intro a hk) | fail))
    refine DoneD.done hk (res3 hk rfl (.str hS (hT := aT rfl) (hs := zT rfl)) (.one hS (hT := aT rfl)) (.one hS (hT := aT rfl))) ⟨rfl, hS.sub (by (repeat (first | exact Sub.refl | apply Sub.under)))⟩
  · have hR : parseF s = match viewF s (2 * s.size + 2) 0 0 with
      | .ok n j => if (tokF s j).kind = 0 then .ok n 0 else .no (tokF s j).at_ 2
      | .no a e => .no a e := by
      unfold parseF; rw [if_neg hbig]
      cases viewF s (2 * s.size + 2) 0 0 <;> rfl
    rw [hR]
    clear hR
    (repeat' (first | (show wpListIn _ _ _ _ _ (_ :: _) _ _; first | (refine wx1 ?_; clear hk a; intro a hk) | (refine wx2 ?_ ?_ <;> (intro hp; clear hk a; intro a hk)) | (refine wx3 ?_; clear hk hS a; intro w b hS a hk) | (refine wx4 ?_; clear hk hS a; intro w hS a hk) | (refine wx5 ?_; clear hk hS a; intro w v hS a hk) | fail) | refine wx0 ?_ | (refine s_end hk ?_; clear hk a; intro a hk) | fail))
    refine su_defer hk ?_ (resolve_fn hk rfl)
    clear hk a; intro a hk
    (repeat' (first | (show wpListIn _ _ _ _ _ (_ :: _) _ _; first | (refine wx1 ?_; clear hk a; intro a hk) | (refine wx2 ?_ ?_ <;> (intro hp; clear hk a; intro a hk)) | (refine wx3 ?_; clear hk hS a; intro w b hS a hk) | (refine wx4 ?_; clear hk hS a; intro w hS a hk) | (refine wx5 ?_; clear hk hS a; intro w v hS a hk) | fail) | refine wx0 ?_ | (refine s_end hk ?_; clear hk a; intro a hk) | fail))
    rename_i x3 x2 b1 x1 b2 x0 b3
    refine sgP hk ((g_callP hk (hf := by kernel_rfl) (hc := view_all (2 * s.size + 2) b s 0 0 B _ _ (by omega) (Nat.zero_le _) (by omega) (by omega) (hS.sub (.cons (A := rdr b s 0 0) (by (repeat (first | exact At.here | apply At.there))) .refl)))).mono (fun v w h => ?_) (fun ch w h => ?_))
    rotate_left
    · clear hk hS a
      intro a hk
      obtain ⟨p, e, hno, rfl, hS⟩ := h
      rw [hno]
      (repeat (first | refine then_panic ?_ | refine inBlock_panic ?_))
      refine DoneD.leave (f := 22) (args := #[.pointer (some ⟨b1, 0, none⟩), .pointer (some ⟨b2, 0, none⟩), .pointer (some ⟨b3, 0, none⟩)]) (.inr (.inr ⟨_, rfl, rfl⟩)) hk (inv_fn (by kernel_rfl)) (catch_panic b1 b2 b3 _ rfl 0 0 p e (hS.sub (.cons (A := pts b1 _ 33) (by (repeat (first | exact At.here | apply At.there))) (.cons (A := pts b2 _ 3) (by (repeat (first | exact At.here | apply At.there))) (.cons (A := pts b3 _ 34) (by (repeat (first | exact At.here | apply At.there))) (by (repeat (first | exact Sub.refl | apply Sub.under)))))))) (fun w' hS' => ⟨_, res3 hk rfl (.str hS' (hT := aT rfl) (hs := zT rfl)) (.one hS' (hT := aT rfl)) (.one hS' (hT := aT rfl)), ?_⟩)
      exact ⟨rfl, hS'.sub (by (repeat (first | exact Sub.refl | apply Sub.under)))⟩
    · clear hk hS a
      intro a hk
      obtain ⟨t, j, hok, hS⟩ := h
      have hvp := (view_pos s (2 * s.size + 2)).1 _ _ _ _ hok
      rw [hok]
      simp only
      obtain ⟨⟨k2, tag2, key2, text2, ⟨x12, x22, x32⟩, ⟨y12, y22, y32⟩, ⟨z12, z22, z32⟩, ⟨e2, lv2, m2, d2, p2, q2⟩, ⟨u12, u22, u32⟩⟩, rfl, hS1⟩ := St.tree hS .here
      clear hS
      have hS := hS1
      clear hS1
      (repeat' (first | (show wpListIn _ _ _ _ _ (_ :: _) _ _; first | (refine wx1 ?_; clear hk a; intro a hk) | (refine wx2 ?_ ?_ <;> (intro hp; clear hk a; intro a hk)) | (refine wx3 ?_; clear hk hS a; intro w b hS a hk) | (refine wx4 ?_; clear hk hS a; intro w hS a hk) | (refine wx5 ?_; clear hk hS a; intro w v hS a hk) | fail) | refine wx0 ?_ | (refine s_end hk ?_; clear hk a; intro a hk) | fail))
      have hat := tok_at_ (s := s) (i := j) hvp.2
      have hn0 := tok_ne0 (s := s) (i := j)
      have hn1 := tok_e (s := s) (i := j)
      have hle := scan_le blkB s _ j (Nat.le_refl _) hvp.2
      refine sg hk (g_callO hk (hf := by kernel_rfl) (hc := skip_any b s j 0 hs hvp.2 (hS.sub (.cons (by (repeat (first | exact At.here | apply At.there))) .refl))) (h := ?_)); clear hk hS a; intro vr w hS a hk
      generalize scan blkB s j = q at *
      by_cases hq : q < s.size
      · rw [if_neg (hn0 hq), hat]
        (repeat' (first | (show wpListIn _ _ _ _ _ (_ :: _) _ _; first | (refine wx1 ?_; clear hk a; intro a hk) | (refine wx2 ?_ ?_ <;> (intro hp; clear hk a; intro a hk)) | (refine wx3 ?_; clear hk hS a; intro w b hS a hk) | (refine wx4 ?_; clear hk hS a; intro w hS a hk) | (refine wx5 ?_; clear hk hS a; intro w v hS a hk) | fail) | refine wx0 ?_ | (refine s_end hk ?_; clear hk a; intro a hk) | fail))
        refine sgP hk ((g_callP hk (hf := by kernel_rfl) (hc := fail_any q 2 _)).mono (fun v w h => h.elim) (fun ch w h a hk => ?_))
        obtain ⟨rfl, hS1⟩ := h
        replace hS := hS.call0 hS1
        (repeat (first | refine then_panic ?_ | refine inBlock_panic ?_))
        refine DoneD.leave (f := 22) (args := #[.pointer (some ⟨b1, 0, none⟩), .pointer (some ⟨b2, 0, none⟩), .pointer (some ⟨b3, 0, none⟩)]) (.inr (.inr ⟨_, rfl, rfl⟩)) hk (inv_fn (by kernel_rfl)) (catch_panic b1 b2 b3 _ rfl 0 0 q 2 (hS.sub (.cons (A := pts b1 _ 33) (by (repeat (first | exact At.here | apply At.there))) (.cons (A := pts b2 _ 3) (by (repeat (first | exact At.here | apply At.there))) (.cons (A := pts b3 _ 34) (by (repeat (first | exact At.here | apply At.there))) (by (repeat (first | exact Sub.refl | apply Sub.under)))))))) (fun w' hS' => ⟨_, res3 hk rfl (.str hS' (hT := aT rfl) (hs := zT rfl)) (.one hS' (hT := aT rfl)) (.one hS' (hT := aT rfl)), ?_⟩)
        exact ⟨rfl, hS'.sub (by (repeat (first | exact Sub.refl | apply Sub.under)))⟩
      · rw [if_pos (by rw [hn1 hq])]
        (repeat' (first | (show wpListIn _ _ _ _ _ (_ :: _) _ _; first | (refine wx1 ?_; clear hk a; intro a hk) | (refine wx2 ?_ ?_ <;> (intro hp; clear hk a; intro a hk)) | (refine wx3 ?_; clear hk hS a; intro w b hS a hk) | (refine wx4 ?_; clear hk hS a; intro w hS a hk) | (refine wx5 ?_; clear hk hS a; intro w v hS a hk) | fail) | refine wx0 ?_ | (refine s_end hk ?_; clear hk a; intro a hk) | fail))
        refine DoneD.leave (f := 22) (args := #[.pointer (some ⟨b1, 0, none⟩), .pointer (some ⟨b2, 0, none⟩), .pointer (some ⟨b3, 0, none⟩)]) (.inl ⟨rfl, rfl⟩) hk (inv_fn (by kernel_rfl)) (catch_idle b1 b2 b3 _ 0 0 (hS.sub (.cons (A := pts b1 _ 33) (by (repeat (first | exact At.here | apply At.there))) (.cons (A := pts b2 _ 3) (by (repeat (first | exact At.here | apply At.there))) (.cons (A := pts b3 _ 34) (by (repeat (first | exact At.here | apply At.there))) .refl))))) (fun w' hS' => ⟨_, res3 hk rfl (.str hS' (hT := aT rfl) (hs := zT rfl)) (.one hS' (hT := aT rfl)) (.one hS' (hT := aT rfl)), ?_⟩)
        refine ⟨_, rfl, ?_⟩
        exact treeH.of (h := (k2, tag2, key2, text2, ⟨x12, x22, x32⟩, ⟨y12, y22, y32⟩, ⟨z12, z22, z32⟩, (e2, lv2, m2, d2, p2, q2), ⟨u12, u22, u32⟩)) (hS'.sub (.cons (by (repeat (first | exact At.here | apply At.there))) (by (repeat (first | exact Sub.refl | apply Sub.under)))))
end
end Go.Proofs.YtipdgobplfkipaaGreatDoor
namespace Go.Proofs.YtipdgobplfkipaaGreatDoor

def addW (s w : ByteArray) : ByteArray := s ++ ⟨#[32]⟩ ++ w
def keyW (key : ByteArray) : List ByteArray := if key = ⟨#[]⟩ then [] else [⟨#[35]⟩ ++ key]
def kindW (k : Int) : List ByteArray := if k = 3 then [wGroup] else if k = 4 then [wSlot] else []
def durW (nm : ByteArray) (x : Int) : List ByteArray := if x = 0 then [] else [nm ++ itoS x]
def modeW (m : Int) : List ByteArray := if m = 1 then [wOutIn] else if m = 2 then [wInOut] else []
def optW (o : Opt) : List ByteArray := durW (wEnter ++ ⟨#[61]⟩) o.1 ++ durW (wLeave ++ ⟨#[61]⟩) o.2.1 ++ durW (wMove ++ ⟨#[61]⟩) o.2.2.1 ++ (if o.2.2.2.2.1 = true then [wAppear] else []) ++ (if o.2.2.2.2.2 = true then [wMoves] else []) ++ modeW o.2.2.2.1
def itmW (k : Int) (key : ByteArray) (cl : List ByteArray) (al : List (ByteArray × ByteArray)) (sl : List (ByteArray × Int)) (o : Opt) : List ByteArray :=
  keyW key ++ cl.map (fun c => ⟨#[46]⟩ ++ c) ++ al.map (fun x => ⟨#[64]⟩ ++ x.1 ++ ⟨#[61]⟩ ++ x.2) ++ sl.map (fun x => x.1 ++ ⟨#[61]⟩ ++ itoS x.2) ++ kindW k ++ optW o
mutual
def prnT : Tree → ByteArray
  | .mk k tag key text cl al sl o kids => if k = 1 then ⟨#[39]⟩ ++ text ++ ⟨#[39]⟩ else ⟨#[40]⟩ ++ (itmW k key cl al sl o ++ prnL kids).foldl addW tag ++ ⟨#[41]⟩
def prnL : List Tree → List ByteArray
  | [] => []
  | t :: ts => prnT t :: prnL ts
end
theorem prnL_app : ∀ (a b : List Tree), prnL (a ++ b) = prnL a ++ prnL b
  | [], b => rfl
  | t :: a, b => by rw [List.cons_append, prnL, prnL, prnL_app a b]; rfl
theorem prnL_map : ∀ l : List Tree, prnL l = l.map prnT
  | [] => rfl
  | t :: l => by rw [prnL, prnL_map l]; rfl
theorem addW_snoc (tag : ByteArray) (l : List ByteArray) (w : ByteArray) : (l ++ [w]).foldl addW tag = addW (l.foldl addW tag) w := by rw [List.foldl_append]; rfl
end Go.Proofs.YtipdgobplfkipaaGreatDoor
namespace Go.Proofs.YtipdgobplfkipaaGreatDoor
open Go.RowKit
set_option maxRecDepth 100000
attribute [local irreducible] Go.Code.wpIn Go.wpListIn Go.Calls Gives Go.Exit.then Go.Exit.inBlock Done ObxE

def bldIn (T e : TypeId) (B N b : Nat) (l : List UInt8) (w : World) : Prop :=
  B ≤ b ∧ b < N ∧ N ≤ w.heap.size ∧ ∃ p v, (p = .pointer none ∨ p = .pointer (some ⟨b, 0, none⟩)) ∧ w.heap[b]? = some (.cells #[p, v] T (0, 0)) ∧ w.ownsRow B e 1 v (Lib.byteCells l).length (Lib.byteCells l) ∧ v.ownBlock ≠ some b ∧ ∀ g, v.ownBlock = some g → g < N
theorem bldIn.same {T e : TypeId} {B N b : Nat} {l : List UInt8} {w w' : World} (h : bldIn T e B N b l w) (hf : ∀ k, B ≤ k ∧ k < N → w'.heap[k]? = w.heap[k]?) : bldIn T e B N b l w' := by
  obtain ⟨h1, h2, h3, p, v, hp, hb, ho, hn, hg⟩ := h
  have hN : N ≤ w'.heap.size := by
    have hk := hf (N - 1) ⟨by omega, by omega⟩
    rw [Array.getElem?_eq_getElem (by omega : N - 1 < w.heap.size)] at hk
    have := (Array.getElem?_eq_some_iff.1 hk).1
    omega
  refine ⟨h1, h2, hN, p, v, hp, by rw [hf b ⟨h1, h2⟩]; exact hb, ⟨ho.1, ?_⟩, hn, hg⟩
  rcases ho.2 with hz | ⟨g, cap, cur, rfl, hBg, hgg, rest⟩
  · exact .inl hz
  · exact .inr ⟨g, cap, cur, rfl, hBg, by rw [hf g ⟨hBg, hg g rfl⟩]; exact hgg, rest⟩
def blH (T e : TypeId) (b : Nat) (l : List UInt8) : HP where
  holds F w := ∃ B N, (∀ k, F k ↔ B ≤ k ∧ k < N) ∧ bldIn T e B N b l w
  stable := fun F w w' ⟨B, N, hF, h⟩ hs => ⟨B, N, hF, h.same fun k hk => hs k ((hF k).2 hk)⟩
  dom := fun F w k ⟨B, N, hF, h⟩ hk => by
    have := (hF k).1 hk
    obtain ⟨_, _, h3, _⟩ := h
    omega
theorem bldIn.is {T e : TypeId} {B N b : Nat} {l : List UInt8} {w : World} (h : bldIn T e B N b l w) : Lib.IsBuilder T e B b (Lib.byteCells l) w := by
  obtain ⟨h1, _, _, p, v, hp, hb, ho, hn, _⟩ := h
  rcases hp with rfl | rfl
  · exact .inl ⟨h1, v, hb, ho, hn⟩
  · exact .inr ⟨h1, v, hb, ho, hn⟩
theorem bldIn.of {T e : TypeId} {B b : Nat} {l : List UInt8} {w : World} (h : Lib.BuilderAt T e B b (.pointer (some ⟨b, 0, none⟩)) (Lib.byteCells l) w) : bldIn T e B w.heap.size b l w := by
  have hlt := h.lt
  obtain ⟨h1, v, hb, ho, hn⟩ := h
  refine ⟨h1, hlt, Nat.le_refl _, _, v, .inr rfl, hb, ho, hn, fun g hg => ?_⟩
  rcases ho.2 with ⟨rfl, _⟩ | ⟨g', cap, cur, rfl, _, hgg, _⟩
  · cases hg
  · simp only [Value.ownBlock, Option.some.injEq] at hg
    subst hg
    exact (Array.getElem?_eq_some_iff.1 hgg).1
theorem St.bld {w0 w : World} {T e : TypeId} {b : Nat} {l : List UInt8} {L L' : List HP} (hS : St w0 L w) (hat : At (blH T e b l) L L') : ∃ B, w0.heap.size ≤ B ∧ B ≤ w.heap.size ∧ Lib.IsBuilder T e B b (Lib.byteCells l) w := by
  obtain ⟨F, hF, hp⟩ := hS.own
  obtain ⟨F1, F2, h1, h2, h3, ⟨B, N, hFB, hb⟩, h5⟩ := hp.pull hat
  have h := hb
  obtain ⟨g1, g2, g3, _⟩ := h
  have hB := (hF B (h1 B ((hFB B).2 ⟨Nat.le_refl _, by omega⟩))).1.1
  exact ⟨B, hB, by omega, hb.is⟩
theorem St.bldOf {w0 w w' : World} {T e : TypeId} {B b : Nat} {l : List UInt8} {L : List HP} (hS : St w0 L w) (hB : w0.heap.size ≤ B) (hw : Below B w w') (h : Lib.BuilderAt T e B b (.pointer (some ⟨b, 0, none⟩)) (Lib.byteCells l) w') : St w0 [blH T e b l] w' := by
  have hbel : Below w0.heap.size w0 w' := hS.below.trans (hw.mono hB)
  refine ⟨hbel, Frz.of_below hbel, fun k => B ≤ k ∧ k < w'.heap.size, fun k hk => ⟨⟨Nat.le_trans hB hk.1, fun hl => ?_⟩, hk.2⟩, ⟨fun k => B ≤ k ∧ k < w'.heap.size, fun _ => False, fun _ h => h, fun _ h => h.elim, fun _ _ h => h, ⟨B, w'.heap.size, fun _ => Iff.rfl, bldIn.of h⟩, trivial⟩⟩
  have := hl.lt
  have := hk.1
  simp only at *
  omega
end Go.Proofs.YtipdgobplfkipaaGreatDoor
namespace Go.Proofs.YtipdgobplfkipaaGreatDoor
open Go.RowKit Go.Shelf

theorem bInfo : (Tryz.prog.info? 114).map (·.size) = some 2 := by kernel_rfl
theorem bLies : liesAt Tryz.prog Tryz.prog.depth 114 (2 / Tryz.prog.cellsOf 114) 0 114 1 = true := by kernel_rfl
set_option maxHeartbeats 1000000 in
set_option maxRecDepth 100000 in
theorem copyUsed (b : Nat) (w : World) (h0 : w.cell? ⟨b, 0, none⟩ = some (.pointer (some ⟨b, 0, none⟩))) :
    Calls Tryz.prog 81 #[.pointer (some ⟨b, 0, none⟩)] w fun e w' => e = .returned (.tuple #[]) ∧ w' = w := by
  obtain ⟨j, hj, _⟩ := Option.map_eq_some_iff.1 bInfo
  have mixed : Tryz.prog.follows .mixedOrders = true := by kernel_rfl
  have t72 := Tryz.underlying114; have a72 := Tryz.isAgg114; have z72 := Tryz.sizeOf114; have v72 := Tryz.zeroValue114; have u72 := run_underlying t72
  have t70 := Tryz.underlying111; have a70 := Tryz.isAgg111; have z70 := Tryz.sizeOf111; have v70 := Tryz.zeroValue111; have u70 := run_underlying t70
  have t4 := Tryz.underlying4; have a4 := Tryz.isAgg4; have z4 := Tryz.sizeOf4; have v4 := Tryz.zeroValue4; have u4 := run_underlying t4
  have t164 := Tryz.underlying148; have a164 := Tryz.isAgg148; have z164 := Tryz.sizeOf148; have v164 := Tryz.zeroValue148; have u164 := run_underlying t164
  go_enter Tryz.func81, Tryz.ntmps81
  go_wp2
  rw [Lib.run_neq_ptr_same w _ t70 hj]
  go_wp2
  go_end0
  exact ⟨rfl, rfl⟩

set_option maxHeartbeats 1000000 in
set_option maxRecDepth 100000 in
theorem copyFresh (b : Nat) (w : World) (h0 : w.cell? ⟨b, 0, none⟩ = some (.pointer none)) (hsh : w.shape? b = some (114, 2)) (hfz : w.frozen? ⟨b, 0, none⟩ = false) :
    Calls Tryz.prog 81 #[.pointer (some ⟨b, 0, none⟩)] w fun e w' => e = .returned (.tuple #[]) ∧ w' = w.setCell ⟨b, 0, none⟩ (.pointer (some ⟨b, 0, none⟩)) := by
  obtain ⟨j, hj, hjs⟩ := Option.map_eq_some_iff.1 bInfo
  have mixed : Tryz.prog.follows .mixedOrders = true := by kernel_rfl
  have t72 := Tryz.underlying114; have a72 := Tryz.isAgg114; have z72 := Tryz.sizeOf114; have v72 := Tryz.zeroValue114; have u72 := run_underlying t72
  have t70 := Tryz.underlying111; have a70 := Tryz.isAgg111; have z70 := Tryz.sizeOf111; have v70 := Tryz.zeroValue111; have u70 := run_underlying t70
  have t4 := Tryz.underlying4; have a4 := Tryz.isAgg4; have z4 := Tryz.sizeOf4; have v4 := Tryz.zeroValue4; have u4 := run_underlying t4
  have t164 := Tryz.underlying148; have a164 := Tryz.isAgg148; have z164 := Tryz.sizeOf148; have v164 := Tryz.zeroValue148; have u164 := run_underlying t164
  go_enter Tryz.func81, Tryz.ntmps81
  go_wp2
  rw [Lib.run_to_unsafe w ⟨b, 0, none⟩ t70 t164 hj (by rw [hjs]; decide) hsh (Nat.zero_lt_succ 1)]
  simp only [Result.andThen]
  rw [Oper.upon_value]
  go_wp2
  rw [run_callFunc_extern Tryz.func109 (by kernel_rfl) (by kernel_rfl) (by kernel_rfl) (e := Extern.AbiNoEscape.same) (by kernel_rfl)]
  rw [Lib.run_noEscape]
  simp only [Result.andThen]
  rw [Oper.upon_value]
  go_wp2
  rw [Lib.run_from_unsafe w ⟨b, 0, none⟩ t164 t70 hj hsh bLies]
  simp only [Result.andThen]
  rw [Oper.upon_value]
  go_wp2
  go_end0
  exact ⟨rfl, rfl⟩
theorem copyCheck_bld (B b : Nat) (bs : List Value) (w : World) (h : Lib.IsBuilder 114 5 B b bs w) :
    Calls Tryz.prog 81 #[.pointer (some ⟨b, 0, none⟩)] w fun e w' => e = .returned (.tuple #[]) ∧ Lib.BuilderAt 114 5 B b (.pointer (some ⟨b, 0, none⟩)) bs w' ∧ Below B w w' := by
  rcases h with h | h
  · refine (copyFresh b w h.cell0 h.shape h.frozen0).mono ?_
    rintro e w' ⟨he, rfl⟩
    exact ⟨he, h.used _, (Below.refl _ _).setCell (p := ⟨b, 0, none⟩) h.1 _⟩
  · refine (copyUsed b w h.cell0).mono ?_
    rintro e w' ⟨he, rfl⟩
    exact ⟨he, h, Below.refl _ _⟩
set_option maxHeartbeats 1000000 in
set_option maxRecDepth 100000 in
theorem write_bld (B b : Nat) (bs : List Value) (s : ByteArray) (w : World) (h : Lib.IsBuilder 114 5 B b bs w) (hlen : bs.length + s.size ≤ 140737488355328) (hBw : B ≤ w.heap.size) :
    Calls Tryz.prog 62 #[.pointer (some ⟨b, 0, none⟩), .string s] w fun e w' => e = .returned (.tuple #[.int .i64 s.size, .nilIface]) ∧ (Lib.BuilderAt 114 5 B b (.pointer (some ⟨b, 0, none⟩)) (bs ++ Lib.strCells s) w' ∧ Below B w w') := by
  obtain ⟨i0, hi, hz0, hz1, hz2⟩ : ∃ i, Tryz.prog.info? 5 = some i ∧ i.zero = some (.int .u8 0) ∧ i.size = 1 ∧ i.bytes = 1 := by
    have h : (Tryz.prog.info? 5).map (fun i => (i.zero, i.size, i.bytes)) = some (some (.int .u8 0), 1, 1) := by kernel_rfl
    obtain ⟨i, hi, he⟩ := Option.map_eq_some_iff.1 h
    simp only [Prod.mk.injEq] at he
    exact ⟨i, hi, he.1, he.2.1, he.2.2⟩
  have mixed : Tryz.prog.follows .mixedOrders = true := by kernel_rfl
  have t72 := Tryz.underlying114; have a72 := Tryz.isAgg114; have z72 := Tryz.sizeOf114; have v72 := Tryz.zeroValue114; have u72 := run_underlying t72
  have t70 := Tryz.underlying111; have a70 := Tryz.isAgg111; have z70 := Tryz.sizeOf111; have v70 := Tryz.zeroValue111; have u70 := run_underlying t70
  have t4 := Tryz.underlying4; have a4 := Tryz.isAgg4; have z4 := Tryz.sizeOf4; have v4 := Tryz.zeroValue4; have u4 := run_underlying t4
  have t37 := Tryz.underlying112; have a37 := Tryz.isAgg112; have z37 := Tryz.sizeOf112; have v37 := Tryz.zeroValue112; have u37 := run_underlying t37
  have t3 := Tryz.underlying3; have a3 := Tryz.isAgg3; have z3 := Tryz.sizeOf3; have v3 := Tryz.zeroValue3; have u3 := run_underlying t3
  have t9 := Tryz.underlying9; have a9 := Tryz.isAgg9; have z9 := Tryz.sizeOf9; have v9 := Tryz.zeroValue9; have u9 := run_underlying t9
  have t5 := Tryz.underlying5; have a5 := Tryz.isAgg5; have z5 := Tryz.sizeOf5; have v5 := Tryz.zeroValue5; have u5 := run_underlying t5
  have e240 : ∀ args w, (callFunc 81 args).run Tryz.prog w = .ok (.enter 81 args) w := enters_of Tryz.func81 (by kernel_rfl) rfl
  go_enter Tryz.func62, Tryz.ntmps62
  go_wp2_with (go_at_fn 81; refine (copyCheck_bld B b bs _ h).mono ?_)
  rintro e w1 ⟨rfl, h1, hb1⟩
  have hlt : b < w1.heap.size := h1.lt
  obtain ⟨hB, v, hbk, hown, hne⟩ := h1
  have c0 : w1.cell? ⟨b, 0, none⟩ = some (.pointer (some ⟨b, 0, none⟩)) := by rw [Lib.cell_of_heap hbk]; rfl
  have c1 : w1.cell? ⟨b, 1, none⟩ = some v := by rw [Lib.cell_of_heap hbk]; rfl
  go_wp2_with (at_builtin; refine Lib.wpList_append_own_string _ rfl _ _ 112 9 rfl B 5 i0 t37 t9 hi hz0 hz1 hz2 _ _ _ rfl hown s rfl ?c3 ?c4 ?c5 ?_)
  case c3 => unfold maxLen; omega
  case c4 => omega
  case c5 => have := hb1.size; omega
  intro v' w2 hown' hgrow _
  have hb2 : w2.heap[b]? = some (.cells #[.pointer (some ⟨b, 0, none⟩), v] 114 (0, 0)) := by
    rw [hgrow.block b hlt (fun e => hne e.symm)]
    exact hbk
  have d0 : w2.cell? ⟨b, 0, none⟩ = some (.pointer (some ⟨b, 0, none⟩)) := by rw [Lib.cell_of_heap hb2]; rfl
  have d1 : w2.cell? ⟨b, 1, none⟩ = some v := by rw [Lib.cell_of_heap hb2]; rfl
  have f1 : w2.frozen? ⟨b, 1, none⟩ = false := Lib.frozen_of_heap hb2 1
  obtain ⟨ao, n', cap, rfl⟩ : ∃ ao n' cap, v' = .slice ao n' cap := by
    rcases hown'.2 with ⟨hv, _⟩ | ⟨g, cap, cur, hv, _⟩
    · exact ⟨_, _, _, hv⟩
    · exact ⟨_, _, _, hv⟩
  go_wp2
  go_ret2
  refine ⟨rfl, ?_, ?_⟩
  · exact Lib.BuilderAt.put (T := 114) (e := 5) hB hb2 (bs' := bs ++ Lib.strCells s) (by simpa [Lib.strCells_length] using hown') (by decide)
  · exact (hb1.grown hgrow (by have := hb1.size; omega) (fun k hk => (hown.lt k hk).1)).setCell (p := ⟨b, 1, none⟩) hB _
end Go.Proofs.YtipdgobplfkipaaGreatDoor
namespace Go.Proofs.YtipdgobplfkipaaGreatDoor
open Go.RowKit
set_option maxRecDepth 100000
attribute [local irreducible] Go.Code.wpIn Go.wpListIn Go.Calls Gives Go.Exit.then Go.Exit.inBlock Done ObxE

abbrev bldT : TypeId := 114
abbrev bldE : TypeId := 5
theorem writeB_any {w0 w : World} {b : Nat} {l : List UInt8} {L L' : List HP} (s : ByteArray) (hS : St w0 L w) (hlen : l.length + s.size ≤ 100000000000) (hat : At (blH bldT bldE b l) L L' := by (repeat (first | exact At.here | apply At.there))) :
    Calls Tryz.prog 62 #[.pointer (some ⟨b, 0, none⟩), .string s] w (Ret fun v w' => v = .tuple #[.int .i64 s.size, .nilIface] ∧ St w0 [blH bldT bldE b (l ++ s.data.toList)] w') := by
  obtain ⟨B, h1, h2, h3⟩ := hS.bld hat
  refine Calls.mono (write_bld B b _ s w h3 (by rw [Lib.byteCells_length]; omega) h2) (fun e w' ⟨he, h4, h5⟩ => ⟨_, he, rfl, hS.bldOf h1 h5 ?_⟩)
  rw [Lib.byteCells_append, ← Lib.strCells_eq]
  exact h4
theorem below_nil {w0 w w' : World} {L : List HP} {B : Nat} (hS : St w0 L w) (hB : w0.heap.size ≤ B) (hw : Below B w w') : St w0 [] w' :=
  have hbel : Below w0.heap.size w0 w' := hS.below.trans (hw.mono hB)
  ⟨hbel, Frz.of_below hbel, fun _ => False, fun _ h => h.elim, trivial⟩
theorem stringB_any {w0 w : World} {b : Nat} {l : List UInt8} {L L' : List HP} (hS : St w0 L w) (hat : At (blH bldT bldE b l) L L' := by (repeat (first | exact At.here | apply At.there))) :
    Calls Tryz.prog 63 #[.pointer (some ⟨b, 0, none⟩)] w (Ret fun v w' => v = .string ⟨l.toArray⟩ ∧ St w0 [] w') := by
  obtain ⟨B, h1, h2, h3⟩ := hS.bld hat
  exact Calls.mono (Tryz.Builder_String_any B b l w h3 h2) (fun e w' ⟨he, h5⟩ => ⟨_, he, rfl, below_nil hS h1 h5⟩)
theorem growB_any {w0 w : World} {b n : Nat} {L L' : List HP} (hS : St w0 L w) (hn : n ≤ 281474976710656) (hat : At (pts b [.pointer none, .slice none 0 0] bldT) L L' := by (repeat (first | exact At.here | apply At.there))) :
    Calls Tryz.prog 61 #[.pointer (some ⟨b, 0, none⟩), .int .i64 (n : Int)] w (Ret fun v w' => v = .tuple #[] ∧ St w0 [blH bldT bldE b []] w') := by
  obtain ⟨F, hF, hp⟩ := hS.own
  obtain ⟨F1, F2, h1, h2, h3, ⟨hFb, hall, hb⟩, h5⟩ := hp.pull hat
  have hlt := (Array.getElem?_eq_some_iff.1 hb).1
  have hB := (hF b (h1 b hFb)).1.1
  exact Calls.mono (Tryz.Builder_Grow_fresh b b n w (Nat.le_refl _) hb (by omega) hn) (fun e w' ⟨he, h4, h6⟩ => ⟨_, he, rfl, hS.bldOf hB h6 h4⟩)

def joinT (r : List ByteArray) : List UInt8 := r.flatMap (fun y => 32 :: y.data.toList)
def joinL : List ByteArray → List UInt8
  | [] => []
  | x :: r => x.data.toList ++ joinT r
theorem joinT_snoc (r : List ByteArray) (y : ByteArray) : joinT (r ++ [y]) = joinT r ++ (32 :: y.data.toList) := by simp [joinT]
def sumS (l : List ByteArray) : Nat := l.foldl (fun n s => n + s.size) 0
theorem sumS_snoc (l : List ByteArray) (s : ByteArray) : sumS (l ++ [s]) = sumS l + s.size := by simp [sumS]
theorem sumS_take {l : List ByteArray} {X : Nat} (h : ∀ s ∈ l, s.size ≤ X) : ∀ i, i ≤ l.length → sumS (l.take i) ≤ X * i
  | 0, _ => by simp [sumS]
  | i + 1, hi => by
    have hx : l[i]? = some l[i] := List.getElem?_eq_getElem (by omega)
    rw [take_snoc hx, sumS_snoc]
    have h1 := sumS_take h i (by omega)
    have h2 := h l[i] (List.getElem_mem _)
    rw [Nat.mul_add]; omega
theorem joinT_len {l : List ByteArray} {X : Nat} (h : ∀ s ∈ l, s.size ≤ X) : ∀ i, i ≤ l.length → (joinT (l.take i)).length ≤ (X + 1) * i
  | 0, _ => by simp [joinT]
  | i + 1, hi => by
    have hx : l[i]? = some l[i] := List.getElem?_eq_getElem (by omega)
    rw [take_snoc hx, joinT_snoc, List.length_append, List.length_cons]
    have h1 := joinT_len h i (by omega)
    have h2 := h l[i] (List.getElem_mem _)
    have h3 : l[i].data.toList.length = l[i].size := Array.length_toList
    rw [Nat.mul_add]; omega

set_option maxHeartbeats 4000000 in
theorem join2_any (Z : Nat) (hZ : Z ≤ 1000000) (x0 x1 : ByteArray) (r : List ByteArray) (hl : r.length ≤ 10000) (hx : ∀ s ∈ x0 :: x1 :: r, s.size ≤ Z) (v : Value) (w0 : World) (hv : SlT (x0 :: x1 :: r) v w0) :
    Calls Tryz.prog 40 #[v, .string ⟨#[32]⟩] w0 (Ret fun v w => v = .string ⟨(joinL (x0 :: x1 :: r)).toArray⟩ ∧ St w0 [] w) := by
  generalize hX : x0 :: x1 :: r = X at *
  have hXl : X.length = r.length + 2 := by rw [← hX]; simp
  have hX0 : X[0]? = some x0 := by rw [← hX]; rfl
  have h32 : ByteArray.size ⟨#[32]⟩ = 1 := rfl
  refine enter Tryz.func40 rfl Tryz.ntmps40 rfl (fun a hk => ?_); have hS := St.refl w0
  (repeat' (first | (show wpListIn _ _ _ _ _ (_ :: _) _ _; first | (refine wx1 ?_; clear hk a; intro a hk) | (refine wx2 ?_ ?_ <;> (intro hp; clear hk a; intro a hk)) | (refine wx3 ?_; clear hk hS a; intro w b hS a hk) | (refine wx4 ?_; clear hk hS a; intro w hS a hk) | (refine wx5 ?_; clear hk hS a; intro w v hS a hk) | fail) | refine wx0 ?_ | (refine s_end hk ?_; clear hk a; intro a hk) | fail))
  have hQ : ∃ Q : Int, IntKind.i64.wrap ((9223372036854775807 : Int).tdiv ((X.length : Int) - 1)) = Q ∧ 2 ≤ Q ∧ Q ≤ 9223372036854775807 := by
    have h1 : (9223372036854775807 : Int).tdiv ((X.length : Int) - 1) = 9223372036854775807 / ((X.length : Int) - 1) := Int.tdiv_eq_ediv_of_nonneg (by decide)
    have h2 : (2 : Int) ≤ 9223372036854775807 / ((X.length : Int) - 1) := Int.le_ediv_of_mul_le (by omega) (by omega)
    have h3 : (9223372036854775807 : Int) / ((X.length : Int) - 1) ≤ 9223372036854775807 := Int.ediv_le_self _ (by decide)
    exact ⟨_, rfl, by rw [h1, IntWalk.i64_in _ ⟨by omega, h3⟩]; exact h2, by rw [h1, IntWalk.i64_in _ ⟨by omega, h3⟩]; exact h3⟩
  obtain ⟨Q, hQ0, hQ1, hQ2⟩ := hQ
  refine sg hk (g_quo hk ?_ (hq := by omega)); clear hk a; intro a hk
  rw [hQ0] at hk
  (repeat' (first | (show wpListIn _ _ _ _ _ (_ :: _) _ _; first | (refine wx1 ?_; clear hk a; intro a hk) | (refine wx2 ?_ ?_ <;> (intro hp; clear hk a; intro a hk)) | (refine wx3 ?_; clear hk hS a; intro w b hS a hk) | (refine wx4 ?_; clear hk hS a; intro w hS a hk) | (refine wx5 ?_; clear hk hS a; intro w v hS a hk) | fail) | refine wx0 ?_ | (refine s_end hk ?_; clear hk a; intro a hk) | fail))
  refine sg hk (g_mul hk ?_ (hlo := by rw [h32]; omega) (hhi := by rw [h32]; omega)); clear hk a; intro a hk
  rw [h32] at hk
  (repeat' (first | (show wpListIn _ _ _ _ _ (_ :: _) _ _; first | (refine wx1 ?_; clear hk a; intro a hk) | (refine wx2 ?_ ?_ <;> (intro hp; clear hk a; intro a hk)) | (refine wx3 ?_; clear hk hS a; intro w b hS a hk) | (refine wx4 ?_; clear hk hS a; intro w hS a hk) | (refine wx5 ?_; clear hk hS a; intro w v hS a hk) | fail) | refine wx0 ?_ | (refine s_end hk ?_; clear hk a; intro a hk) | fail))
  have e5 : (0 + ((1 : Nat) : Int) * ((X.length : Int) - 1)) = ((X.length - 1 + sumS (X.take 0) : Nat) : Int) := by rw [List.take_zero]; simp only [sumS, List.foldl_nil]; omega
  rw [e5] at hk
  replace hk := Kn.kp [0, 1, 5, 39, 40, 41] hk
  refine wp_for X.length (fun i _ => [(5, .int .i64 ((X.length - 1 + sumS (X.take i) : Nat) : Int)), (41, .int .i64 (i : Int))]) (fun _ _ => []) (fun _ _ => True) () hk (by repeat (first | exact trivial | refine ⟨rfl, ?_⟩)) hS.sb trivial ?_
  clear hk hS a
  rintro i - a w hi hk hS -
  have hb := sumS_take hx i hi
  have hbm : Z * i ≤ 1000000 * 10002 := Nat.mul_le_mul hZ (by omega)
  by_cases hil : i < X.length
  · obtain ⟨x, hxi⟩ : ∃ x, X[i]? = some x := ⟨_, List.getElem?_eq_getElem hil⟩
    have hxs := hx x (List.mem_of_getElem? hxi)
    have hst : sumS (X.take (i + 1)) = sumS (X.take i) + x.size := by rw [take_snoc hxi, sumS_snoc]
    (repeat' (first | (show wpListIn _ _ _ _ _ (_ :: _) _ _; first | (refine wx1 ?_; clear hk a; intro a hk) | (refine wx2 ?_ ?_ <;> (intro hp; clear hk a; intro a hk)) | (refine wx3 ?_; clear hk hS a; intro w b hS a hk) | (refine wx4 ?_; clear hk hS a; intro w hS a hk) | (refine wx5 ?_; clear hk hS a; intro w v hS a hk) | fail) | refine wx0 ?_ | (refine s_end hk ?_; clear hk a; intro a hk) | fail))
    have e6 : ((X.length - 1 + sumS (X.take i) : Nat) : Int) + (x.size : Int) = ((X.length - 1 + sumS (X.take (i + 1)) : Nat) : Int) := by rw [hst]; omega
    rw [e6] at hk
    exact ⟨hil, (), hk.sd, hS.sb, trivial⟩
  · have hii : i = X.length := by omega
    subst hii
    rw [List.take_length] at hk hb
    (repeat' (first | (show wpListIn _ _ _ _ _ (_ :: _) _ _; first | (refine wx1 ?_; clear hk a; intro a hk) | (refine wx2 ?_ ?_ <;> (intro hp; clear hk a; intro a hk)) | (refine wx3 ?_; clear hk hS a; intro w b hS a hk) | (refine wx4 ?_; clear hk hS a; intro w hS a hk) | (refine wx5 ?_; clear hk hS a; intro w v hS a hk) | fail) | refine wx0 ?_ | (refine s_end hk ?_; clear hk a; intro a hk) | fail))
    refine sg hk (g_callO hk (hf := by kernel_rfl) (hc := growB_any (n := X.length - 1 + sumS X) hS (by omega)) (h := ?_)); clear hk hS a; rintro _ w ⟨rfl, hS⟩ a hk
    (repeat' (first | (show wpListIn _ _ _ _ _ (_ :: _) _ _; first | (refine wx1 ?_; clear hk a; intro a hk) | (refine wx2 ?_ ?_ <;> (intro hp; clear hk a; intro a hk)) | (refine wx3 ?_; clear hk hS a; intro w b hS a hk) | (refine wx4 ?_; clear hk hS a; intro w hS a hk) | (refine wx5 ?_; clear hk hS a; intro w v hS a hk) | fail) | refine wx0 ?_ | (refine s_end hk ?_; clear hk a; intro a hk) | fail))
    refine sg hk (g_callO hk (hf := by kernel_rfl) (hc := writeB_any (l := []) x0 hS (by have := hx x0 (List.mem_of_getElem? hX0); simp only [List.length_nil]; omega)) (h := ?_)); clear hk hS a; rintro _ w ⟨rfl, hS⟩ a hk
    (repeat' (first | (show wpListIn _ _ _ _ _ (_ :: _) _ _; first | (refine wx1 ?_; clear hk a; intro a hk) | (refine wx2 ?_ ?_ <;> (intro hp; clear hk a; intro a hk)) | (refine wx3 ?_; clear hk hS a; intro w b hS a hk) | (refine wx4 ?_; clear hk hS a; intro w hS a hk) | (refine wx5 ?_; clear hk hS a; intro w v hS a hk) | fail) | refine wx0 ?_ | (refine s_end hk ?_; clear hk a; intro a hk) | fail))
    refine sg hk (g_partF (i := 1) hk ?_ (ht := eT rfl) (hs := (by first | exact St.rdT hS (by assumption) | exact OwT.rd (hS.rd (A := OwT _ _ _) (by (repeat (first | exact At.here | apply At.there)))) | assumption)) (hE := zT rfl) (hi := by omega)); clear hk a; intro vp hvp a hk
    obtain ⟨Y, hY⟩ : ∃ Y, X.drop 1 = Y := ⟨_, rfl⟩
    rw [hY] at hvp
    have hYl : Y.length = X.length - 1 := by rw [← hY, List.length_drop]
    have hYm : ∀ s ∈ Y, s.size ≤ Z := fun s hs => hx s (by rw [← hY] at hs; exact List.mem_of_mem_drop hs)
    have hvp0 := hvp w0 hv
    (repeat' (first | (show wpListIn _ _ _ _ _ (_ :: _) _ _; first | (refine wx1 ?_; clear hk a; intro a hk) | (refine wx2 ?_ ?_ <;> (intro hp; clear hk a; intro a hk)) | (refine wx3 ?_; clear hk hS a; intro w b hS a hk) | (refine wx4 ?_; clear hk hS a; intro w hS a hk) | (refine wx5 ?_; clear hk hS a; intro w v hS a hk) | fail) | refine wx0 ?_ | (refine s_end hk ?_; clear hk a; intro a hk) | fail))
    replace hk := Kn.kp [1, 8, 63, 64, 65] hk
    have e7 : ([] ++ x0.data.toList : List UInt8) = x0.data.toList ++ joinT (Y.take 0) := by simp [joinT]
    rw [e7] at hS
    refine wp_for Y.length (fun i _ => [(65, .int .i64 (i : Int))]) (fun i _ => [blH bldT bldE b (x0.data.toList ++ joinT (Y.take i))]) (fun _ _ => True) () hk (by repeat (first | exact trivial | refine ⟨rfl, ?_⟩)) hS.sb trivial ?_
    clear hk hS a
    rintro i - a w hi2 hk hS -
    have hjl := joinT_len hYm i hi2
    have hx0l : x0.data.toList.length = x0.size := Array.length_toList
    have hx0s := hx x0 (List.mem_of_getElem? hX0)
    have hbj : (Z + 1) * i ≤ (1000000 + 1) * 10002 := Nat.mul_le_mul (by omega) (by omega)
    have hvp1 := hS.rdT hvp0
    have hll : (x0.data.toList ++ joinT (Y.take i)).length = x0.size + (joinT (Y.take i)).length := by rw [List.length_append, hx0l]
    by_cases hil2 : i < Y.length
    · obtain ⟨y, hyi⟩ : ∃ y, Y[i]? = some y := ⟨_, List.getElem?_eq_getElem hil2⟩
      have hys := hYm y (List.mem_of_getElem? hyi)
      have hst : x0.data.toList ++ joinT (Y.take i) ++ [32] ++ y.data.toList = x0.data.toList ++ joinT (Y.take (i + 1)) := by rw [take_snoc hyi, joinT_snoc]; simp
      generalize x0.data.toList ++ joinT (Y.take i) = Z at *
      (repeat' (first | (show wpListIn _ _ _ _ _ (_ :: _) _ _; first | (refine wx1 ?_; clear hk a; intro a hk) | (refine wx2 ?_ ?_ <;> (intro hp; clear hk a; intro a hk)) | (refine wx3 ?_; clear hk hS a; intro w b hS a hk) | (refine wx4 ?_; clear hk hS a; intro w hS a hk) | (refine wx5 ?_; clear hk hS a; intro w v hS a hk) | fail) | refine wx0 ?_ | (refine s_end hk ?_; clear hk a; intro a hk) | fail))
      refine sg hk (g_callO hk (hf := by kernel_rfl) (hc := writeB_any (l := Z) ⟨#[32]⟩ hS (by omega)) (h := ?_)); clear hk hS a; rintro _ w ⟨rfl, hS⟩ a hk
      rw [show (ByteArray.mk #[32]).data.toList = [32] from rfl] at hS
      (repeat' (first | (show wpListIn _ _ _ _ _ (_ :: _) _ _; first | (refine wx1 ?_; clear hk a; intro a hk) | (refine wx2 ?_ ?_ <;> (intro hp; clear hk a; intro a hk)) | (refine wx3 ?_; clear hk hS a; intro w b hS a hk) | (refine wx4 ?_; clear hk hS a; intro w hS a hk) | (refine wx5 ?_; clear hk hS a; intro w v hS a hk) | fail) | refine wx0 ?_ | (refine s_end hk ?_; clear hk a; intro a hk) | fail))
      refine sg hk (g_callO hk (hf := by kernel_rfl) (hc := writeB_any (l := Z ++ [32]) y hS (by rw [List.length_append, List.length_singleton]; omega)) (h := ?_)); clear hk hS a; rintro _ w ⟨rfl, hS⟩ a hk
      rw [hst] at hS
      (repeat' (first | (show wpListIn _ _ _ _ _ (_ :: _) _ _; first | (refine wx1 ?_; clear hk a; intro a hk) | (refine wx2 ?_ ?_ <;> (intro hp; clear hk a; intro a hk)) | (refine wx3 ?_; clear hk hS a; intro w b hS a hk) | (refine wx4 ?_; clear hk hS a; intro w hS a hk) | (refine wx5 ?_; clear hk hS a; intro w v hS a hk) | fail) | refine wx0 ?_ | (refine s_end hk ?_; clear hk a; intro a hk) | fail))
      exact ⟨hil2, (), hk.sd, hS.sb, trivial⟩
    · have hii : i = Y.length := by omega
      subst hii
      rw [List.take_length] at hS
      (repeat' (first | (show wpListIn _ _ _ _ _ (_ :: _) _ _; first | (refine wx1 ?_; clear hk a; intro a hk) | (refine wx2 ?_ ?_ <;> (intro hp; clear hk a; intro a hk)) | (refine wx3 ?_; clear hk hS a; intro w b hS a hk) | (refine wx4 ?_; clear hk hS a; intro w hS a hk) | (refine wx5 ?_; clear hk hS a; intro w v hS a hk) | fail) | refine wx0 ?_ | (refine s_end hk ?_; clear hk a; intro a hk) | fail))
      refine sg hk (g_callO hk (hf := by kernel_rfl) (hc := stringB_any (l := x0.data.toList ++ joinT Y) hS) (h := ?_)); clear hk hS a; rintro _ w ⟨rfl, hS⟩ a hk
      (repeat' (first | (show wpListIn _ _ _ _ _ (_ :: _) _ _; first | (refine wx1 ?_; clear hk a; intro a hk) | (refine wx2 ?_ ?_ <;> (intro hp; clear hk a; intro a hk)) | (refine wx3 ?_; clear hk hS a; intro w b hS a hk) | (refine wx4 ?_; clear hk hS a; intro w hS a hk) | (refine wx5 ?_; clear hk hS a; intro w v hS a hk) | fail) | refine wx0 ?_ | (refine s_end hk ?_; clear hk a; intro a hk) | fail))
      refine done1 hk (h := ⟨?_, hS.nil⟩)
      rw [← hX, joinL]
      rw [← hX, List.drop_one, List.tail_cons] at hY
      rw [← hY]
theorem join1_any (x0 : ByteArray) (v : Value) (w0 : World) (hv : SlT [x0] v w0) :
    Calls Tryz.prog 40 #[v, .string ⟨#[32]⟩] w0 (Ret fun v w => v = .string x0 ∧ St w0 [] w) := by
  have hX0 : [x0][0]? = some x0 := rfl
  have hl1 : [x0].length = 1 := rfl
  refine enter Tryz.func40 rfl Tryz.ntmps40 rfl (fun a hk => ?_); have hS := St.refl w0
  (repeat' (first | (show wpListIn _ _ _ _ _ (_ :: _) _ _; first | (refine wx1 ?_; clear hk a; intro a hk) | (refine wx2 ?_ ?_ <;> (intro hp; clear hk a; intro a hk)) | (refine wx3 ?_; clear hk hS a; intro w b hS a hk) | (refine wx4 ?_; clear hk hS a; intro w hS a hk) | (refine wx5 ?_; clear hk hS a; intro w v hS a hk) | fail) | refine wx0 ?_ | (refine s_end hk ?_; clear hk a; intro a hk) | fail))
  exact done1 hk (h := ⟨rfl, hS.nil⟩)
theorem joinL_one (x : ByteArray) : (⟨(joinL [x]).toArray⟩ : ByteArray) = x := by
  cases x with
  | mk d => simp [joinL, joinT]
theorem joinX_any (Z : Nat) (hZ : Z ≤ 1000000) (X : List ByteArray) (hne : X ≠ []) (hl : X.length ≤ 10000) (hx : ∀ s ∈ X, s.size ≤ Z) (v : Value) (w0 : World) (hv : SlT X v w0) :
    Calls Tryz.prog 40 #[v, .string ⟨#[32]⟩] w0 (Ret fun v w => v = .string ⟨(joinL X).toArray⟩ ∧ St w0 [] w) := by
  match X, hne, hl, hx, hv with
  | [x0], _, _, _, hv => rw [joinL_one]; exact join1_any x0 v w0 hv
  | x0 :: x1 :: r, _, hl, hx, hv => exact join2_any Z hZ x0 x1 r (by simp only [List.length_cons] at hl; omega) hx v w0 hv
end Go.Proofs.YtipdgobplfkipaaGreatDoor
namespace Go.Proofs.YtipdgobplfkipaaGreatDoor
open Go.RowKit

theorem fold_join (x : ByteArray) : ∀ l : List ByteArray, l.foldl addW x = ⟨(joinL (x :: l)).toArray⟩ := by
  intro l
  induction l generalizing x with
  | nil => simp [joinL, joinT]
  | cons y l ih =>
    rw [List.foldl_cons, ih]
    congr 2
    simp [joinL, joinT, addW, ByteArray.data_append]
theorem piece_le {x : ByteArray} : ∀ {l : List ByteArray} {y : ByteArray}, y ∈ x :: l → y.size ≤ (l.foldl addW x).size := by
  intro l
  induction l generalizing x with
  | nil => intro y hy; simp at hy; subst hy; exact Nat.le_refl _
  | cons z l ih =>
    intro y hy
    rw [List.foldl_cons]
    have h0 := ih (x := addW x z) (y := addW x z) (by simp)
    have e : (addW x z).size = x.size + 1 + z.size := by
      unfold addW; rw [ByteArray.size_append, ByteArray.size_append]; rfl
    simp only [List.mem_cons] at hy
    rcases hy with rfl | rfl | hy
    · omega
    · omega
    · exact ih (by simp [hy])
def i64R (x : Int) : Prop := -9223372036854775808 ≤ x ∧ x ≤ 9223372036854775807
theorem itoR_size {n : Int} (h : i64R n) : (itoS n).size ≤ 21 := by
  have := Lib.itoa_length_le n h.1 h.2
  have e : (itoS n).size = (Lib.itoa n).length := by unfold itoS; simp [ByteArray.size]
  omega
inductive PO : Tree → Prop
  | mk {k : Int} {tag key text : ByteArray} {cl : List ByteArray} {al : List (ByteArray × ByteArray)} {sl : List (ByteArray × Int)} {o : Opt} {kids : List Tree}
    (h1 : cl.length ≤ 1000) (h2 : al.length ≤ 1000) (h3 : sl.length ≤ 1000) (h4 : kids.length ≤ 1000) (h5 : ∀ x ∈ sl, i64R x.2) (h6 : i64R o.1 ∧ i64R o.2.1 ∧ i64R o.2.2.1) (h7 : ∀ t ∈ kids, PO t) : PO (.mk k tag key text cl al sl o kids)
theorem snap_mem {κ α : Type} [Lin κ] (key : α → κ) {l : List α} {x : α} (h : x ∈ snapF key l) : x ∈ l := last_mem key ((snap_last key).1 h)
theorem snapTs_map : ∀ l : List Tree, snapTs l = l.map snapT
  | [] => rfl
  | t :: l => by rw [snapTs, snapTs_map l]; rfl
abbrev clsW (c : ByteArray) : ByteArray := ⟨#[46]⟩ ++ c
abbrev attW (x : ByteArray × ByteArray) : ByteArray := ⟨#[64]⟩ ++ x.1 ++ ⟨#[61]⟩ ++ x.2
abbrev styW (x : ByteArray × Int) : ByteArray := x.1 ++ ⟨#[61]⟩ ++ itoS x.2
end Go.Proofs.YtipdgobplfkipaaGreatDoor
namespace Go.Proofs.YtipdgobplfkipaaGreatDoor
open Go.RowKit
set_option maxRecDepth 100000
attribute [local irreducible] Go.Code.wpIn Go.wpListIn Go.Calls Gives Go.Exit.then Go.Exit.inBlock Done ObxE

theorem digits_any (n : Int) (h : i64R n) (w0 : World) (ht : TabW w0) : Calls Tryz.prog 59 #[.int .i64 n] w0 (Ret fun v w => v = .string (itoS n) ∧ St w0 [] w) := by
  refine enter Tryz.func59 rfl Tryz.ntmps59 rfl (fun a hk => ?_); have hS := St.refl w0
  (repeat' (first | (show wpListIn _ _ _ _ _ (_ :: _) _ _; first | (refine wx1 ?_; clear hk a; intro a hk) | (refine wx2 ?_ ?_ <;> (intro hp; clear hk a; intro a hk)) | (refine wx3 ?_; clear hk hS a; intro w b hS a hk) | (refine wx4 ?_; clear hk hS a; intro w hS a hk) | (refine wx5 ?_; clear hk hS a; intro w v hS a hk) | fail) | refine wx0 ?_ | (refine s_end hk ?_; clear hk a; intro a hk) | fail))
  refine sg hk (g_callO hk (hf := by kernel_rfl) (hc := itoa_any n h.1 h.2 _ (ht.mono hS.below)) (h := ?_)); clear hk a; rintro _ w ⟨rfl, hS1⟩ a hk; replace hS := hS.call0 hS1; clear hS1
  (repeat' (first | (show wpListIn _ _ _ _ _ (_ :: _) _ _; first | (refine wx1 ?_; clear hk a; intro a hk) | (refine wx2 ?_ ?_ <;> (intro hp; clear hk a; intro a hk)) | (refine wx3 ?_; clear hk hS a; intro w b hS a hk) | (refine wx4 ?_; clear hk hS a; intro w hS a hk) | (refine wx5 ?_; clear hk hS a; intro w v hS a hk) | fail) | refine wx0 ?_ | (refine s_end hk ?_; clear hk a; intro a hk) | fail))
  exact done1 hk (h := ⟨rfl, hS.nil⟩)
abbrev dur3 (e lv m : Int) : List PrI := [(wEnter ++ ⟨#[61]⟩, e), (wLeave ++ ⟨#[61]⟩, lv), (wMove ++ ⟨#[61]⟩, m)]
abbrev durA (l : List PrI) : List ByteArray := l.flatMap fun x => durW x.1 x.2

set_option maxHeartbeats 8000000 in
theorem options_any (e lv m d : Int) (p q : Bool) (he : i64R e) (hl : i64R lv) (hm : i64R m) (w0 : World) (ht : TabW w0) :
    Calls Tryz.prog 60 #[.agg #[.int .i64 e, .int .i64 lv, .int .i64 m, .int .i64 d, .bool p, .bool q]] w0 (Ret fun v w => St w0 [OwT 9 (optW (e, lv, m, d, p, q)) v] w) := by
  refine enter Tryz.func60 rfl Tryz.ntmps60 rfl (fun a hk => ?_); have hS := St.refl w0
  (repeat' (first | (show wpListIn _ _ _ _ _ (_ :: _) _ _; first | (refine wx1 ?_; clear hk a; intro a hk) | (refine wx2 ?_ ?_ <;> (intro hp; clear hk a; intro a hk)) | (refine wx3 ?_; clear hk hS a; intro w b hS a hk) | (refine wx4 ?_; clear hk hS a; intro w hS a hk) | (refine wx5 ?_; clear hk hS a; intro w v hS a hk) | fail) | refine wx0 ?_ | (refine s_end hk ?_; clear hk a; intro a hk) | fail))
  refine sg hk (g_bsT (xs := (dur3 e lv m : List PrI)) (m := 2) hk hS ?_ (hT := eT rfl) (hE := zT rfl) (hz := oT rfl)); clear hk hS a; intro w v15 hS a hk
  have h64 : ∀ x ∈ dur3 e lv m, i64R x.2 ∧ x.1.size ≤ 100 := by
    intro x hx
    simp only [List.mem_cons, List.not_mem_nil, or_false] at hx
    rcases hx with rfl | rfl | rfl
    · exact ⟨he, by show (wEnter ++ ⟨#[61]⟩ : ByteArray).size ≤ 100; decide⟩
    · exact ⟨hl, by show (wLeave ++ ⟨#[61]⟩ : ByteArray).size ≤ 100; decide⟩
    · exact ⟨hm, by show (wMove ++ ⟨#[61]⟩ : ByteArray).size ≤ 100; decide⟩
  generalize hD : dur3 e lv m = D at *
  have hDl : D.length = 3 := by rw [← hD]; rfl
  (repeat' (first | (show wpListIn _ _ _ _ _ (_ :: _) _ _; first | (refine wx1 ?_; clear hk a; intro a hk) | (refine wx2 ?_ ?_ <;> (intro hp; clear hk a; intro a hk)) | (refine wx3 ?_; clear hk hS a; intro w b hS a hk) | (refine wx4 ?_; clear hk hS a; intro w hS a hk) | (refine wx5 ?_; clear hk hS a; intro w v hS a hk) | fail) | refine wx0 ?_ | (refine s_end hk ?_; clear hk a; intro a hk) | fail))
  replace hS : St w0 [OwT 9 (durA (D.take 0)) (.slice none 0 0), OwT 136 D v15, pts b [.int .i64 e, .int .i64 lv, .int .i64 m, .int .i64 d, .bool p, .bool q] 30] w := (hS.nilT 9 ByteArray).sub (by (repeat (first | exact Sub.nil | exact Sub.refl | refine Sub.cons (by (repeat (first | exact At.here | apply At.there))) ?_)))
  replace hk := Kn.kp [1, 3, 15, 16, 17] hk
  refine wp_for D.length (fun i v => [(3, v), (17, .int .i64 (i : Int))]) (fun i v => [OwT 9 (durA (D.take i)) v, OwT 136 D v15, pts b [.int .i64 e, .int .i64 lv, .int .i64 m, .int .i64 d, .bool p, .bool q] 30]) (fun i v => (durA (D.take i)).length ≤ i) (.slice none 0 0) hk (by repeat (first | exact trivial | refine ⟨rfl, ?_⟩)) hS.sb (Nat.le_refl _) ?_
  clear hk hS a
  rintro i v7 a w hi hk hS hdl
  by_cases hil : i < D.length
  · obtain ⟨⟨nm, z⟩, hx⟩ : ∃ x, D[i]? = some x := ⟨_, List.getElem?_eq_getElem hil⟩
    obtain ⟨hz64, hnm⟩ := h64 _ (List.mem_of_getElem? hx)
    simp only at hz64 hnm
    have hzs := itoR_size hz64
    have hst : durA (D.take (i + 1)) = durA (D.take i) ++ durW nm z := by rw [take_snoc hx]; simp [durA]
    by_cases hz : z = 0
    · have hst0 : durA (D.take (i + 1)) = durA (D.take i) := by rw [hst]; simp [durW, hz]
      (repeat' (first | (show wpListIn _ _ _ _ _ (_ :: _) _ _; first | (refine wx1 ?_; clear hk a; intro a hk) | (refine wx2 ?_ ?_ <;> (intro hp; clear hk a; intro a hk)) | (refine wx3 ?_; clear hk hS a; intro w b hS a hk) | (refine wx4 ?_; clear hk hS a; intro w hS a hk) | (refine wx5 ?_; clear hk hS a; intro w v hS a hk) | fail) | refine wx0 ?_ | (refine s_end hk ?_; clear hk a; intro a hk) | fail))
      rw [← hst0] at hS
      exact ⟨hil, v7, hk.sd, hS.sub (by (repeat (first | exact Sub.nil | exact Sub.refl | refine Sub.cons (by (repeat (first | exact At.here | apply At.there))) ?_))), by rw [hst0]; omega⟩
    · have hst1 : durA (D.take (i + 1)) = durA (D.take i) ++ [nm ++ itoS z] := by rw [hst]; simp [durW, hz]
      (repeat' (first | (show wpListIn _ _ _ _ _ (_ :: _) _ _; first | (refine wx1 ?_; clear hk a; intro a hk) | (refine wx2 ?_ ?_ <;> (intro hp; clear hk a; intro a hk)) | (refine wx3 ?_; clear hk hS a; intro w b hS a hk) | (refine wx4 ?_; clear hk hS a; intro w hS a hk) | (refine wx5 ?_; clear hk hS a; intro w v hS a hk) | fail) | refine wx0 ?_ | (refine s_end hk ?_; clear hk a; intro a hk) | fail))
      refine wp_drawn 8 mixed (by kernel_rfl) hk hS ?_; clear hk hS a
      (repeat' (first | (show ObxE _ _ _ _ _ _ _ _ _ (_ :: _) _ _ _; first | refine ox1 ?_ | (refine ox2 ?_ ?_ <;> intro hp) | fail) | fail))
      refine' obe_val (fun us a w hk hd hS => ?_) ?_; rotate_left; focus (have hk := Kn.vw hk (by repeat (first | exact VW.nil | apply VW.val rfl | apply VW.base rfl rfl | apply VW.res rfl | apply VW.upd rfl | apply VW.cpy rfl | apply VW.dep rfl | apply VW.fn rfl | apply VW.lnd rfl | apply VW.tak rfl)); exact g_callO hk (hf := by kernel_rfl) (hc := digits_any z hz64 _ (ht.mono hS.below)) (h := fun _ _ h => h))
      refine' obe_val (fun us a w hk hd hS => ?_) ?_; rotate_left; focus (have hk := Kn.vw hk (by repeat (first | exact VW.nil | apply VW.val rfl | apply VW.base rfl rfl | apply VW.res rfl | apply VW.upd rfl | apply VW.cpy rfl | apply VW.dep rfl | apply VW.fn rfl | apply VW.lnd rfl | apply VW.tak rfl)); exact g_cat (s := nm) (r := itoS z) hk (same _ _) (hl := by simp only [maxLen]; omega))
      refine' obe_res (V := OwT 9 [nm ++ itoS z]) (fun us a w hk hd hS => ?_) ?_
      · have hk := Kn.vw hk (by repeat (first | exact VW.nil | apply VW.val rfl | apply VW.base rfl rfl | apply VW.res rfl | apply VW.upd rfl | apply VW.cpy rfl | apply VW.dep rfl | apply VW.fn rfl | apply VW.lnd rfl | apply VW.tak rfl))
        exact v_bsT (α := ByteArray) (T := 24) (E := 9) (q := [(0, .tmp 30)]) (z := .string ⟨#[]⟩) (xs := [nm ++ itoS z]) (m := 0) hk (hT := eT rfl) (hE := zT rfl) (hz := oT rfl)
      refine obe_nil ⟨rfl, ?_⟩; intro us a w hk hS
      simp only [resE] at hS
      generalize durA (D.take i) = Y at *
      (repeat' (first | (show wpListIn _ _ _ _ _ (_ :: _) _ _; first | (refine wx1 ?_; clear hk a; intro a hk) | (refine wx2 ?_ ?_ <;> (intro hp; clear hk a; intro a hk)) | (refine wx3 ?_; clear hk hS a; intro w b hS a hk) | (refine wx4 ?_; clear hk hS a; intro w hS a hk) | (refine wx5 ?_; clear hk hS a; intro w v hS a hk) | fail) | refine wx0 ?_ | (refine s_end hk ?_; clear hk a; intro a hk) | fail))
      rename Value => v8
      rw [← hst1] at hS
      exact ⟨hil, v8, hk.sd, hS.sub (by (repeat (first | exact Sub.nil | exact Sub.refl | refine Sub.cons (by (repeat (first | exact At.here | apply At.there))) ?_))), by rw [hst1, List.length_append]; simp only [List.length_cons, List.length_nil]; omega⟩
  · have hii : i = D.length := by omega
    subst hii
    rw [List.take_length] at hS hdl
    have hopt : optW (e, lv, m, d, p, q) = durA D ++ (if p = true then [wAppear] else []) ++ (if q = true then [wMoves] else []) ++ modeW d := by
      rw [← hD]; simp [optW, durA]
    rw [hopt]
    generalize durA D = Y at *
    rw [hDl] at hdl
    by_cases h1 : d = 1
    · have hmw : modeW d = [wOutIn] := if_pos h1
      rw [hmw]
      cases p <;> cases q
      all_goals (repeat' (first | (show wpListIn _ _ _ _ _ (_ :: _) _ _; first | (refine wx1 ?_; clear hk a; intro a hk) | (refine wx2 ?_ ?_ <;> (intro hp; clear hk a; intro a hk)) | (refine wx3 ?_; clear hk hS a; intro w b hS a hk) | (refine wx4 ?_; clear hk hS a; intro w hS a hk) | (refine wx5 ?_; clear hk hS a; intro w v hS a hk) | fail) | refine wx0 ?_ | (refine s_end hk ?_; clear hk a; intro a hk) | fail))
      all_goals (refine done1 hk (h := ?_); have hS2 := hS.sub (L' := [OwT 9 _ _]) (.cons At.here .nil); simpa [wOutIn, wInOut, wAppear, wMoves] using hS2)
    by_cases h2 : d = 2
    · have hmw : modeW d = [wInOut] := by unfold modeW; rw [if_neg h1, if_pos h2]
      rw [hmw]
      cases p <;> cases q
      all_goals (repeat' (first | (show wpListIn _ _ _ _ _ (_ :: _) _ _; first | (refine wx1 ?_; clear hk a; intro a hk) | (refine wx2 ?_ ?_ <;> (intro hp; clear hk a; intro a hk)) | (refine wx3 ?_; clear hk hS a; intro w b hS a hk) | (refine wx4 ?_; clear hk hS a; intro w hS a hk) | (refine wx5 ?_; clear hk hS a; intro w v hS a hk) | fail) | refine wx0 ?_ | (refine s_end hk ?_; clear hk a; intro a hk) | fail))
      all_goals (refine done1 hk (h := ?_); have hS2 := hS.sub (L' := [OwT 9 _ _]) (.cons At.here .nil); simpa [wOutIn, wInOut, wAppear, wMoves] using hS2)
    · have hmw : modeW d = [] := by unfold modeW; rw [if_neg h1, if_neg h2]
      rw [hmw]
      cases p <;> cases q
      all_goals (repeat' (first | (show wpListIn _ _ _ _ _ (_ :: _) _ _; first | (refine wx1 ?_; clear hk a; intro a hk) | (refine wx2 ?_ ?_ <;> (intro hp; clear hk a; intro a hk)) | (refine wx3 ?_; clear hk hS a; intro w b hS a hk) | (refine wx4 ?_; clear hk hS a; intro w hS a hk) | (refine wx5 ?_; clear hk hS a; intro w v hS a hk) | fail) | refine wx0 ?_ | (refine s_end hk ?_; clear hk a; intro a hk) | fail))
      all_goals (refine done1 hk (h := ?_); have hS2 := hS.sub (L' := [OwT 9 _ _]) (.cons At.here .nil); simpa [wOutIn, wInOut, wAppear, wMoves] using hS2)
end Go.Proofs.YtipdgobplfkipaaGreatDoor
