/- Layer 8: Parse: what it defers; a text's view, or what is wrong first, and where. Layer 8: Parse: a text's view, or what is wrong first, and where. Layer 8: how options are written: the program. Layer 8: how a node's words are written: the program. Layer 8: Print: the program. Layer 8, plain: what the fixed texts are; brackets within brackets. -/
import Derived.Test.YtipdgobplfkipaaGreatDoorR19
import Derived.Test.YtipdgobplfkipaaGreatDoorR18
import Derived.Test.YtipdgobplfkipaaGreatDoorR11
import Derived.Test.YtipdgobplfkipaaGreatDoorR07
set_option linter.all false
namespace Go.Proofs.YtipdgobplfkipaaGreatDoor
open Go.RowKit
set_option maxRecDepth 100000
attribute [local irreducible] Go.Code.wpIn Go.wpListIn Go.Calls Gives Go.Exit.then Go.Exit.inBlock Done ObxE

section
variable {B : Bs} {L : List HP} {w : World}
abbrev varsL (b1 b2 b3 : Nat) (ns : List Value) (p e : Int) (L : List HP) : List HP := pts b1 ns 33 :: pts b2 [.int .i64 p] 3 :: pts b3 [.int .i64 e] 34 :: L
theorem catch_idle (b1 b2 b3 : Nat) (ns : List Value) (p e : Int) (hS : St B (varsL b1 b2 b3 ns p e L) w) :
    CallsDIn Fence.wide 0 Tryz.prog 22 #[.pointer (some ⟨b1, 0, none⟩), .pointer (some ⟨b2, 0, none⟩), .pointer (some ⟨b3, 0, none⟩)] .returning w
      (fun en u w' => (∃ v, en = .returned v) ∧ settle u = .returning ∧ St B (varsL b1 b2 b3 ns p e L) w') := by
  refine enterR (args := [.pointer (some ⟨b1, 0, none⟩), .pointer (some ⟨b2, 0, none⟩), .pointer (some ⟨b3, 0, none⟩)]) Tryz.func22 rfl Tryz.ntmps22 rfl (fun a c₀ cs hu hk => ?_)
  refine wpSIn_seq ?_
  refine q_rec0 hu hk rfl rfl rfl (fun a hk => ?_)
  refine q_rest (u := .returning) (R2 := fun w' => St B (varsL b1 b2 b3 ns p e L) w') (by cases c₀; simp only at hu; subst hu; rfl) (fun v w h => ⟨⟨_, rfl⟩, rfl, h⟩) ?_
  (repeat' (first | (show wpListIn _ _ _ _ _ (_ :: _) _ _; first | (refine wx1 ?_; clear hk a; intro a hk) | (refine wx2 ?_ ?_ <;> (intro hp; clear hk a; intro a hk)) | (refine wx3 ?_; clear hk hS a; intro w b hS a hk) | (refine wx4 ?_; clear hk hS a; intro w hS a hk) | (refine wx5 ?_; clear hk hS a; intro w v hS a hk) | fail) | refine wx0 ?_ | (refine s_end hk ?_; clear hk a; intro a hk) | fail))
  refine sg hk (g_asN hk ?_ Tryz.underlying65 (oT rfl)); clear hk a; intro a hk
  (repeat' (first | (show wpListIn _ _ _ _ _ (_ :: _) _ _; first | (refine wx1 ?_; clear hk a; intro a hk) | (refine wx2 ?_ ?_ <;> (intro hp; clear hk a; intro a hk)) | (refine wx3 ?_; clear hk hS a; intro w b hS a hk) | (refine wx4 ?_; clear hk hS a; intro w hS a hk) | (refine wx5 ?_; clear hk hS a; intro w v hS a hk) | fail) | refine wx0 ?_ | (refine s_end hk ?_; clear hk a; intro a hk) | fail))
  refine sg hk (g_neI hk ?_ (by kernel_rfl)); clear hk a; intro a hk
  (repeat' (first | (show wpListIn _ _ _ _ _ (_ :: _) _ _; first | (refine wx1 ?_; clear hk a; intro a hk) | (refine wx2 ?_ ?_ <;> (intro hp; clear hk a; intro a hk)) | (refine wx3 ?_; clear hk hS a; intro w b hS a hk) | (refine wx4 ?_; clear hk hS a; intro w hS a hk) | (refine wx5 ?_; clear hk hS a; intro w v hS a hk) | fail) | refine wx0 ?_ | (refine s_end hk ?_; clear hk a; intro a hk) | fail))
  exact done0n hk rfl (h := hS.sub (.cons (by (repeat (first | exact At.here | apply At.there))) (.cons (by (repeat (first | exact At.here | apply At.there))) (.cons (by (repeat (first | exact At.here | apply At.there))) (by (repeat (first | exact Sub.refl | apply Sub.under)))))))
theorem catch_panic (b1 b2 b3 : Nat) (ns : List Value) (hns : ns.length = 14) (p e : Int) (q : Nat) (c : Int) (hS : St B (varsL b1 b2 b3 ns p e L) w) :
    CallsDIn Fence.wide 0 Tryz.prog 22 #[.pointer (some ⟨b1, 0, none⟩), .pointer (some ⟨b2, 0, none⟩), .pointer (some ⟨b3, 0, none⟩)] (.panicking (thrown q c)) w
      (fun en u w' => (∃ v, en = .returned v) ∧ settle u = .returning ∧ St B (varsL b1 b2 b3 nd0 q c L) w') := by
  refine enterR (args := [.pointer (some ⟨b1, 0, none⟩), .pointer (some ⟨b2, 0, none⟩), .pointer (some ⟨b3, 0, none⟩)]) Tryz.func22 rfl Tryz.ntmps22 rfl (fun a c₀ cs hu hk => ?_)
  refine wpSIn_seq ?_
  refine q_rec1 hu hk rfl rfl rfl (fun a hk => ?_)
  refine q_rest (u := .panicking [{ v := .iface 65 (.agg #[.int .i64 (q : Int), .int .i64 c]), recovered := true }]) (R2 := fun w' => St B (varsL b1 b2 b3 nd0 q c L) w') rfl (fun v w h => ⟨⟨_, rfl⟩, rfl, h⟩) ?_
  (repeat' (first | (show wpListIn _ _ _ _ _ (_ :: _) _ _; first | (refine wx1 ?_; clear hk a; intro a hk) | (refine wx2 ?_ ?_ <;> (intro hp; clear hk a; intro a hk)) | (refine wx3 ?_; clear hk hS a; intro w b hS a hk) | (refine wx4 ?_; clear hk hS a; intro w hS a hk) | (refine wx5 ?_; clear hk hS a; intro w v hS a hk) | fail) | refine wx0 ?_ | (refine s_end hk ?_; clear hk a; intro a hk) | fail))
  refine sg hk (g_asY hk ?_ Tryz.underlying65); clear hk a; intro a hk
  obtain ⟨n1, n2, n3, n4, n5, n6, n7, n8, n9, n10, n11, n12, n13, n14, rfl⟩ : ∃ n1 n2 n3 n4 n5 n6 n7 n8 n9 n10 n11 n12 n13 n14, ns = [n1, n2, n3, n4, n5, n6, n7, n8, n9, n10, n11, n12, n13, n14] := by
    match ns, hns with
    | [n1, n2, n3, n4, n5, n6, n7, n8, n9, n10, n11, n12, n13, n14], _ => exact ⟨n1, n2, n3, n4, n5, n6, n7, n8, n9, n10, n11, n12, n13, n14, rfl⟩
  (repeat' (first | (show wpListIn _ _ _ _ _ (_ :: _) _ _; first | (refine wx1 ?_; clear hk a; intro a hk) | (refine wx2 ?_ ?_ <;> (intro hp; clear hk a; intro a hk)) | (refine wx3 ?_; clear hk hS a; intro w b hS a hk) | (refine wx4 ?_; clear hk hS a; intro w hS a hk) | (refine wx5 ?_; clear hk hS a; intro w v hS a hk) | fail) | refine wx0 ?_ | (refine s_end hk ?_; clear hk a; intro a hk) | fail))
  replace hS := hS.sub (L' := pts b1 [n1, n2, n3, n4, n5, n6, n7, n8, n9, n10, n11, n12, n13, n14] 33 :: pts b2 [.int .i64 p] 3 :: _) (.cons (by (repeat (first | exact At.here | apply At.there))) (.cons (by (repeat (first | exact At.here | apply At.there))) .refl))
  refine wp_drawnU2 7 mixed (by kernel_rfl) hk hS ?_; clear hk hS a
  (repeat' (first | (show ObxE _ _ _ _ _ _ _ _ _ (_ :: _) _ _ _; first | refine ox1 ?_ | (refine ox2 ?_ ?_ <;> intro hp) | fail) | fail))
  refine' obe_upd (pts b1 [n1, n2, n3, n4, n5, n6, n7, n8, n9, n10, n11, n12, n13, n14] 33) (V := fun _ => pts b1 nd0 33) (fun us a w X hk hd hS hL => ?_) ?_
  · have hk := Kn.vw hk (by repeat (first | exact VW.nil | apply VW.val rfl | apply VW.base rfl rfl | apply VW.res rfl | apply VW.upd rfl | apply VW.cpy rfl | apply VW.dep rfl | apply VW.fn rfl | apply VW.lnd rfl | apply VW.tak rfl))
    exact g_store hk hS (fun w' hS' => hS') (hsz := zT rfl)
  refine' obe_upd (pts b2 [.int .i64 p] 3) (V := fun _ => pts b2 [.int .i64 q] 3) (fun us a w X hk hd hS hL => ?_) ?_
  · have hk := Kn.vw hk (by repeat (first | exact VW.nil | apply VW.val rfl | apply VW.base rfl rfl | apply VW.res rfl | apply VW.upd rfl | apply VW.cpy rfl | apply VW.dep rfl | apply VW.fn rfl | apply VW.lnd rfl | apply VW.tak rfl))
    exact g_store hk hS (fun w' hS' => hS') (hsz := zT rfl)
  refine obe_nil ⟨rfl, ?_⟩; intro us a w hk hS
  simp only [resE, List.cons_append, List.nil_append, Nat.zero_add, Nat.reduceAdd] at hS
  (repeat' (first | (show wpListIn _ _ _ _ _ (_ :: _) _ _; first | (refine wx1 ?_; clear hk a; intro a hk) | (refine wx2 ?_ ?_ <;> (intro hp; clear hk a; intro a hk)) | (refine wx3 ?_; clear hk hS a; intro w b hS a hk) | (refine wx4 ?_; clear hk hS a; intro w hS a hk) | (refine wx5 ?_; clear hk hS a; intro w v hS a hk) | fail) | refine wx0 ?_ | (refine s_end hk ?_; clear hk a; intro a hk) | fail))
  exact done0n hk rfl (h := hS.sub (.cons (by (repeat (first | exact At.here | apply At.there))) (.cons (by (repeat (first | exact At.here | apply At.there))) (.cons (by (repeat (first | exact At.here | apply At.there))) (by (repeat (first | exact Sub.refl | apply Sub.under)))))))
end
end Go.Proofs.YtipdgobplfkipaaGreatDoor
namespace Go.Proofs.YtipdgobplfkipaaGreatDoor
open Go.RowKit
set_option maxRecDepth 100000
attribute [local irreducible] Go.Code.wpIn Go.wpListIn Go.Calls Gives Go.Exit.then Go.Exit.inBlock Done ObxE

theorem tok_ne0 {s : ByteArray} {i : Nat} (hj : scan blkB s i < s.size) : (tokF s i).kind ≠ 0 := by
  by_cases n1 : s[scan blkB s i].toNat = 40
  · rw [tok_1 hj n1]; show (1 : Nat) ≠ 0; decide
  · by_cases n2 : s[scan blkB s i].toNat = 41
    · rw [tok_2 hj n2]; show (2 : Nat) ≠ 0; decide
    · by_cases n3 : s[scan blkB s i].toNat = 39
      · rcases tok_q hj n3 with h | h <;> rw [h] <;> decide
      · by_cases hv : visB s[scan blkB s i] = true
        · rw [tok_4 hj hv]; show (4 : Nat) ≠ 0; decide
        · rw [tok_6 hj n1 n2 n3 hv]; show (5 : Nat) ≠ 0; decide
section
variable {P : Program} {a : Act} {w : World} {n : Nat} {l : List (Nat × Value)} {df : List Deferred} {fn : Func}
theorem res3 {r r' r'' : ResultVar} {v v' v'' : Value} (hk : Kn df n a l) (hr : fn.results = #[r, r', r'']) (h1 : ResV P l w r v) (h2 : ResV P l w r' v') (h3 : ResV P l w r'' v'') : (results fn a.tmps).run P w = .ok (.tuple #[v, v', v'']) w := by
  have e1 := h1.run hk
  have e2 := h2.run hk
  have e3 := h3.run hk
  rw [results_rv, hr]
  simp [e1, e2, e3]
end
theorem inv_fn {P : Program} {w : World} {f : FuncId} {cap : Array Value} (hf : callable P f = true) : (invoke (.fn (.func f) cap) #[]).run P w = .ok (.enter f cap) w := by
  have e : (#[] ++ cap : Array Value) = cap := by simp
  simp only [invoke]
  rw [e]
  exact callFunc_run hf
def ParseR (B : Bs) (L : List HP) (r : Rd Tree) (v : Value) (w : World) : Prop := match r with
  | .ok t _ => ∃ u, v = .tuple #[u, .int .i64 0, .int .i64 0] ∧ St B (treeH (snapT t) u :: L) w
  | .no p e => v = .tuple #[.agg nd0.toArray, .int .i64 (p : Int), .int .i64 e] ∧ St B L w
section
variable {B : Bs} {L : List HP} {w : World}
set_option maxHeartbeats 4000000 in
theorem parseL_any (s : ByteArray) (hs : s.size ≤ 100000000) (hS : St B L w) : Calls Tryz.prog 9 #[.string s] w (Ret (ParseR B L (parseF s))) := by
  refine enterD Tryz.func9 rfl Tryz.ntmps9 rfl (fun a hk => ?_)
  by_cases hbig : 20000 < s.size
  · have hR : parseF s = .no 0 3 := by unfold parseF; rw [if_pos hbig]
    rw [hR]
    (repeat' (first | (show wpListIn _ _ _ _ _ (_ :: _) _ _; first | (refine wx1 ?_; clear hk a; intro a hk) | (refine wx2 ?_ ?_ <;> (intro hp; clear hk a; intro a hk)) | (refine wx3 ?_; clear hk hS a; intro w b hS a hk) | (refine wx4 ?_; clear hk hS a; intro w hS a hk) | (refine wx5 ?_; clear hk hS a; intro w v hS a hk) | fail) | refine wx0 ?_ | (refine s_end hk ?_; clear hk a; intro a hk) | fail))
    refine DoneD.done hk (res3 hk rfl (.str hS (hT := aT rfl) (hs := zT rfl)) (.one hS (hT := aT rfl)) (.one hS (hT := aT rfl))) ⟨rfl, hS.sub (by (repeat (first | exact Sub.refl | apply Sub.under)))⟩
  · have hR : parseF s = match viewF s (2 * s.size + 2) 0 0 with
      | .ok n j => if (tokF s j).kind = 0 then .ok n 0 else .no (tokF s j).at_ 2
      | .no a e => .no a e := by
      unfold parseF; rw [if_neg hbig]
      cases viewF s (2 * s.size + 2) 0 0 <;> rfl
    rw [hR]
    clear hR
    (repeat' (first | (show wpListIn _ _ _ _ _ (_ :: _) _ _; first | (refine wx1 ?_; clear hk a; intro a hk) | (refine wx2 ?_ ?_ <;> (intro hp; clear hk a; intro a hk)) | (refine wx3 ?_; clear hk hS a; intro w b hS a hk) | (refine wx4 ?_; clear hk hS a; intro w hS a hk) | (refine wx5 ?_; clear hk hS a; intro w v hS a hk) | fail) | refine wx0 ?_ | (refine s_end hk ?_; clear hk a; intro a hk) | fail))
    refine su_defer hk ?_ (resolve_fn hk rfl)
    clear hk a; intro a hk
    (repeat' (first | (show wpListIn _ _ _ _ _ (_ :: _) _ _; first | (refine wx1 ?_; clear hk a; intro a hk) | (refine wx2 ?_ ?_ <;> (intro hp; clear hk a; intro a hk)) | (refine wx3 ?_; clear hk hS a; intro w b hS a hk) | (refine wx4 ?_; clear hk hS a; intro w hS a hk) | (refine wx5 ?_; clear hk hS a; intro w v hS a hk) | fail) | refine wx0 ?_ | (refine s_end hk ?_; clear hk a; intro a hk) | fail))
    rename_i x3 x2 b1 x1 b2 x0 b3
    refine sgP hk ((g_callP hk (hf := by kernel_rfl) (hc := view_all (2 * s.size + 2) b s 0 0 B _ _ (by omega) (Nat.zero_le _) (by omega) (by omega) (hS.sub (.cons (A := rdr b s 0 0) (by (repeat (first | exact At.here | apply At.there))) .refl)))).mono (fun v w h => ?_) (fun ch w h => ?_))
    rotate_left
    · clear hk hS a
      intro a hk
      obtain ⟨p, e, hno, rfl, hS⟩ := h
      rw [hno]
      (repeat (first | refine then_panic ?_ | refine inBlock_panic ?_))
      refine DoneD.leave (f := 22) (args := #[.pointer (some ⟨b1, 0, none⟩), .pointer (some ⟨b2, 0, none⟩), .pointer (some ⟨b3, 0, none⟩)]) (.inr (.inr ⟨_, rfl, rfl⟩)) hk (inv_fn (by kernel_rfl)) (catch_panic b1 b2 b3 _ rfl 0 0 p e (hS.sub (.cons (A := pts b1 _ 33) (by (repeat (first | exact At.here | apply At.there))) (.cons (A := pts b2 _ 3) (by (repeat (first | exact At.here | apply At.there))) (.cons (A := pts b3 _ 34) (by (repeat (first | exact At.here | apply At.there))) (by (repeat (first | exact Sub.refl | apply Sub.under)))))))) (fun w' hS' => ⟨_, res3 hk rfl (.str hS' (hT := aT rfl) (hs := zT rfl)) (.one hS' (hT := aT rfl)) (.one hS' (hT := aT rfl)), ?_⟩)
      exact ⟨rfl, hS'.sub (by (repeat (first | exact Sub.refl | apply Sub.under)))⟩
    · clear hk hS a
      intro a hk
      obtain ⟨t, j, hok, hS⟩ := h
      have hvp := (view_pos s (2 * s.size + 2)).1 _ _ _ _ hok
      rw [hok]
      simp only
      obtain ⟨⟨k2, tag2, key2, text2, ⟨x12, x22, x32⟩, ⟨y12, y22, y32⟩, ⟨z12, z22, z32⟩, ⟨e2, lv2, m2, d2, p2, q2⟩, ⟨u12, u22, u32⟩⟩, rfl, hS1⟩ := St.tree hS .here
      clear hS
      have hS := hS1
      clear hS1
      (repeat' (first | (show wpListIn _ _ _ _ _ (_ :: _) _ _; first | (refine wx1 ?_; clear hk a; intro a hk) | (refine wx2 ?_ ?_ <;> (intro hp; clear hk a; intro a hk)) | (refine wx3 ?_; clear hk hS a; intro w b hS a hk) | (refine wx4 ?_; clear hk hS a; intro w hS a hk) | (refine wx5 ?_; clear hk hS a; intro w v hS a hk) | fail) | refine wx0 ?_ | (refine s_end hk ?_; clear hk a; intro a hk) | fail))
      have hat := tok_at_ (s := s) (i := j) hvp.2
      have hn0 := tok_ne0 (s := s) (i := j)
      have hn1 := tok_e (s := s) (i := j)
      have hle := scan_le blkB s _ j (Nat.le_refl _) hvp.2
      refine sg hk (g_callO hk (hf := by kernel_rfl) (hc := skip_any b s j 0 hs hvp.2 (hS.sub (.cons (by (repeat (first | exact At.here | apply At.there))) .refl))) (h := ?_)); clear hk hS a; intro vr w hS a hk
      generalize scan blkB s j = q at *
      by_cases hq : q < s.size
      · rw [if_neg (hn0 hq), hat]
        (repeat' (first | (show wpListIn _ _ _ _ _ (_ :: _) _ _; first | (refine wx1 ?_; clear hk a; intro a hk) | (refine wx2 ?_ ?_ <;> (intro hp; clear hk a; intro a hk)) | (refine wx3 ?_; clear hk hS a; intro w b hS a hk) | (refine wx4 ?_; clear hk hS a; intro w hS a hk) | (refine wx5 ?_; clear hk hS a; intro w v hS a hk) | fail) | refine wx0 ?_ | (refine s_end hk ?_; clear hk a; intro a hk) | fail))
        refine sgP hk ((g_callP hk (hf := by kernel_rfl) (hc := fail_any q 2 _)).mono (fun v w h => h.elim) (fun ch w h a hk => ?_))
        obtain ⟨rfl, hS1⟩ := h
        replace hS := hS.call0 hS1
        (repeat (first | refine then_panic ?_ | refine inBlock_panic ?_))
        refine DoneD.leave (f := 22) (args := #[.pointer (some ⟨b1, 0, none⟩), .pointer (some ⟨b2, 0, none⟩), .pointer (some ⟨b3, 0, none⟩)]) (.inr (.inr ⟨_, rfl, rfl⟩)) hk (inv_fn (by kernel_rfl)) (catch_panic b1 b2 b3 _ rfl 0 0 q 2 (hS.sub (.cons (A := pts b1 _ 33) (by (repeat (first | exact At.here | apply At.there))) (.cons (A := pts b2 _ 3) (by (repeat (first | exact At.here | apply At.there))) (.cons (A := pts b3 _ 34) (by (repeat (first | exact At.here | apply At.there))) (by (repeat (first | exact Sub.refl | apply Sub.under)))))))) (fun w' hS' => ⟨_, res3 hk rfl (.str hS' (hT := aT rfl) (hs := zT rfl)) (.one hS' (hT := aT rfl)) (.one hS' (hT := aT rfl)), ?_⟩)
        exact ⟨rfl, hS'.sub (by (repeat (first | exact Sub.refl | apply Sub.under)))⟩
      · rw [if_pos (by rw [hn1 hq])]
        (repeat' (first | (show wpListIn _ _ _ _ _ (_ :: _) _ _; first | (refine wx1 ?_; clear hk a; intro a hk) | (refine wx2 ?_ ?_ <;> (intro hp; clear hk a; intro a hk)) | (refine wx3 ?_; clear hk hS a; intro w b hS a hk) | (refine wx4 ?_; clear hk hS a; intro w hS a hk) | (refine wx5 ?_; clear hk hS a; intro w v hS a hk) | fail) | refine wx0 ?_ | (refine s_end hk ?_; clear hk a; intro a hk) | fail))
        refine DoneD.leave (f := 22) (args := #[.pointer (some ⟨b1, 0, none⟩), .pointer (some ⟨b2, 0, none⟩), .pointer (some ⟨b3, 0, none⟩)]) (.inl ⟨rfl, rfl⟩) hk (inv_fn (by kernel_rfl)) (catch_idle b1 b2 b3 _ 0 0 (hS.sub (.cons (A := pts b1 _ 33) (by (repeat (first | exact At.here | apply At.there))) (.cons (A := pts b2 _ 3) (by (repeat (first | exact At.here | apply At.there))) (.cons (A := pts b3 _ 34) (by (repeat (first | exact At.here | apply At.there))) .refl))))) (fun w' hS' => ⟨_, res3 hk rfl (.str hS' (hT := aT rfl) (hs := zT rfl)) (.one hS' (hT := aT rfl)) (.one hS' (hT := aT rfl)), ?_⟩)
        refine ⟨_, rfl, ?_⟩
        exact treeH.of (h := (k2, tag2, key2, text2, ⟨x12, x22, x32⟩, ⟨y12, y22, y32⟩, ⟨z12, z22, z32⟩, (e2, lv2, m2, d2, p2, q2), ⟨u12, u22, u32⟩)) (hS'.sub (.cons (by (repeat (first | exact At.here | apply At.there))) (by (repeat (first | exact Sub.refl | apply Sub.under)))))
end
end Go.Proofs.YtipdgobplfkipaaGreatDoor
namespace Go.Proofs.YtipdgobplfkipaaGreatDoor
open Go.RowKit
set_option maxRecDepth 100000
attribute [local irreducible] Go.Code.wpIn Go.wpListIn Go.Calls Gives Go.Exit.then Go.Exit.inBlock Done ObxE

theorem digits_any (n : Int) (h : i64R n) (w0 : World) (ht : TabW w0) : Calls Tryz.prog 59 #[.int .i64 n] w0 (Ret fun v w => v = .string (itoS n) ∧ St w0 [] w) := by
  refine enter Tryz.func59 rfl Tryz.ntmps59 rfl (fun a hk => ?_); have hS := St.refl w0
  (repeat' (first | (show wpListIn _ _ _ _ _ (_ :: _) _ _; first | (refine wx1 ?_; clear hk a; intro a hk) | (refine wx2 ?_ ?_ <;> (intro hp; clear hk a; intro a hk)) | (refine wx3 ?_; clear hk hS a; intro w b hS a hk) | (refine wx4 ?_; clear hk hS a; intro w hS a hk) | (refine wx5 ?_; clear hk hS a; intro w v hS a hk) | fail) | refine wx0 ?_ | (refine s_end hk ?_; clear hk a; intro a hk) | fail))
  refine sg hk (g_callO hk (hf := by kernel_rfl) (hc := itoa_any n h.1 h.2 _ (ht.mono hS.below)) (h := ?_)); clear hk a; rintro _ w ⟨rfl, hS1⟩ a hk; replace hS := hS.call0 hS1; clear hS1
  (repeat' (first | (show wpListIn _ _ _ _ _ (_ :: _) _ _; first | (refine wx1 ?_; clear hk a; intro a hk) | (refine wx2 ?_ ?_ <;> (intro hp; clear hk a; intro a hk)) | (refine wx3 ?_; clear hk hS a; intro w b hS a hk) | (refine wx4 ?_; clear hk hS a; intro w hS a hk) | (refine wx5 ?_; clear hk hS a; intro w v hS a hk) | fail) | refine wx0 ?_ | (refine s_end hk ?_; clear hk a; intro a hk) | fail))
  exact done1 hk (h := ⟨rfl, hS.nil⟩)
abbrev dur3 (e lv m : Int) : List PrI := [(wEnter ++ ⟨#[61]⟩, e), (wLeave ++ ⟨#[61]⟩, lv), (wMove ++ ⟨#[61]⟩, m)]
abbrev durA (l : List PrI) : List ByteArray := l.flatMap fun x => durW x.1 x.2

set_option maxHeartbeats 8000000 in
theorem options_any (e lv m d : Int) (p q : Bool) (he : i64R e) (hl : i64R lv) (hm : i64R m) (w0 : World) (ht : TabW w0) :
    Calls Tryz.prog 60 #[.agg #[.int .i64 e, .int .i64 lv, .int .i64 m, .int .i64 d, .bool p, .bool q]] w0 (Ret fun v w => St w0 [OwT 9 (optW (e, lv, m, d, p, q)) v] w) := by
  refine enter Tryz.func60 rfl Tryz.ntmps60 rfl (fun a hk => ?_); have hS := St.refl w0
  (repeat' (first | (show wpListIn _ _ _ _ _ (_ :: _) _ _; first | (refine wx1 ?_; clear hk a; intro a hk) | (refine wx2 ?_ ?_ <;> (intro hp; clear hk a; intro a hk)) | (refine wx3 ?_; clear hk hS a; intro w b hS a hk) | (refine wx4 ?_; clear hk hS a; intro w hS a hk) | (refine wx5 ?_; clear hk hS a; intro w v hS a hk) | fail) | refine wx0 ?_ | (refine s_end hk ?_; clear hk a; intro a hk) | fail))
  refine sg hk (g_bsT (xs := (dur3 e lv m : List PrI)) (m := 2) hk hS ?_ (hT := eT rfl) (hE := zT rfl) (hz := oT rfl)); clear hk hS a; intro w v15 hS a hk
  have h64 : ∀ x ∈ dur3 e lv m, i64R x.2 ∧ x.1.size ≤ 100 := by
    intro x hx
    simp only [List.mem_cons, List.not_mem_nil, or_false] at hx
    rcases hx with rfl | rfl | rfl
    · exact ⟨he, by show (wEnter ++ ⟨#[61]⟩ : ByteArray).size ≤ 100; decide⟩
    · exact ⟨hl, by show (wLeave ++ ⟨#[61]⟩ : ByteArray).size ≤ 100; decide⟩
    · exact ⟨hm, by show (wMove ++ ⟨#[61]⟩ : ByteArray).size ≤ 100; decide⟩
  generalize hD : dur3 e lv m = D at *
  have hDl : D.length = 3 := by rw [← hD]; rfl
  (repeat' (first | (show wpListIn _ _ _ _ _ (_ :: _) _ _; first | (refine wx1 ?_; clear hk a; intro a hk) | (refine wx2 ?_ ?_ <;> (intro hp; clear hk a; intro a hk)) | (refine wx3 ?_; clear hk hS a; intro w b hS a hk) | (refine wx4 ?_; clear hk hS a; intro w hS a hk) | (refine wx5 ?_; clear hk hS a; intro w v hS a hk) | fail) | refine wx0 ?_ | (refine s_end hk ?_; clear hk a; intro a hk) | fail))
  replace hS : St w0 [OwT 9 (durA (D.take 0)) (.slice none 0 0), OwT 136 D v15, pts b [.int .i64 e, .int .i64 lv, .int .i64 m, .int .i64 d, .bool p, .bool q] 30] w := (hS.nilT 9 ByteArray).sub (by (repeat (first | exact Sub.nil | exact Sub.refl | refine Sub.cons (by (repeat (first | exact At.here | apply At.there))) ?_)))
  replace hk := Kn.kp [1, 3, 15, 16, 17] hk
  refine wp_for D.length (fun i v => [(3, v), (17, .int .i64 (i : Int))]) (fun i v => [OwT 9 (durA (D.take i)) v, OwT 136 D v15, pts b [.int .i64 e, .int .i64 lv, .int .i64 m, .int .i64 d, .bool p, .bool q] 30]) (fun i v => (durA (D.take i)).length ≤ i) (.slice none 0 0) hk (by repeat (first | exact trivial | refine ⟨rfl, ?_⟩)) hS.sb (Nat.le_refl _) ?_
  clear hk hS a
  rintro i v7 a w hi hk hS hdl
  by_cases hil : i < D.length
  · obtain ⟨⟨nm, z⟩, hx⟩ : ∃ x, D[i]? = some x := ⟨_, List.getElem?_eq_getElem hil⟩
    obtain ⟨hz64, hnm⟩ := h64 _ (List.mem_of_getElem? hx)
    simp only at hz64 hnm
    have hzs := itoR_size hz64
    have hst : durA (D.take (i + 1)) = durA (D.take i) ++ durW nm z := by rw [take_snoc hx]; simp [durA]
    by_cases hz : z = 0
    · have hst0 : durA (D.take (i + 1)) = durA (D.take i) := by rw [hst]; simp [durW, hz]
      (repeat' (first | (show wpListIn _ _ _ _ _ (_ :: _) _ _; first | (refine wx1 ?_; clear hk a; intro a hk) | (refine wx2 ?_ ?_ <;> (intro hp; clear hk a; intro a hk)) | (refine wx3 ?_; clear hk hS a; intro w b hS a hk) | (refine wx4 ?_; clear hk hS a; intro w hS a hk) | (refine wx5 ?_; clear hk hS a; intro w v hS a hk) | fail) | refine wx0 ?_ | (refine s_end hk ?_; clear hk a; intro a hk) | fail))
      rw [← hst0] at hS
      exact ⟨hil, v7, hk.sd, hS.sub (by (repeat (first | exact Sub.nil | exact Sub.refl | refine Sub.cons (by (repeat (first | exact At.here | apply At.there))) ?_))), by rw [hst0]; omega⟩
    · have hst1 : durA (D.take (i + 1)) = durA (D.take i) ++ [nm ++ itoS z] := by rw [hst]; simp [durW, hz]
      (repeat' (first | (show wpListIn _ _ _ _ _ (_ :: _) _ _; first | (refine wx1 ?_; clear hk a; intro a hk) | (refine wx2 ?_ ?_ <;> (intro hp; clear hk a; intro a hk)) | (refine wx3 ?_; clear hk hS a; intro w b hS a hk) | (refine wx4 ?_; clear hk hS a; intro w hS a hk) | (refine wx5 ?_; clear hk hS a; intro w v hS a hk) | fail) | refine wx0 ?_ | (refine s_end hk ?_; clear hk a; intro a hk) | fail))
      refine wp_drawn 8 mixed (by kernel_rfl) hk hS ?_; clear hk hS a
      (repeat' (first | (show ObxE _ _ _ _ _ _ _ _ _ (_ :: _) _ _ _; first | refine ox1 ?_ | (refine ox2 ?_ ?_ <;> intro hp) | fail) | fail))
      refine' obe_val (fun us a w hk hd hS => ?_) ?_; rotate_left; focus (have hk := Kn.vw hk (by repeat (first | exact VW.nil | apply VW.val rfl | apply VW.base rfl rfl | apply VW.res rfl | apply VW.upd rfl | apply VW.cpy rfl | apply VW.dep rfl | apply VW.fn rfl | apply VW.lnd rfl | apply VW.tak rfl)); exact g_callO hk (hf := by kernel_rfl) (hc := digits_any z hz64 _ (ht.mono hS.below)) (h := fun _ _ h => h))
      refine' obe_val (fun us a w hk hd hS => ?_) ?_; rotate_left; focus (have hk := Kn.vw hk (by repeat (first | exact VW.nil | apply VW.val rfl | apply VW.base rfl rfl | apply VW.res rfl | apply VW.upd rfl | apply VW.cpy rfl | apply VW.dep rfl | apply VW.fn rfl | apply VW.lnd rfl | apply VW.tak rfl)); exact g_cat (s := nm) (r := itoS z) hk (same _ _) (hl := by simp only [maxLen]; omega))
      refine' obe_res (V := OwT 9 [nm ++ itoS z]) (fun us a w hk hd hS => ?_) ?_
      · have hk := Kn.vw hk (by repeat (first | exact VW.nil | apply VW.val rfl | apply VW.base rfl rfl | apply VW.res rfl | apply VW.upd rfl | apply VW.cpy rfl | apply VW.dep rfl | apply VW.fn rfl | apply VW.lnd rfl | apply VW.tak rfl))
        exact v_bsT (α := ByteArray) (T := 24) (E := 9) (q := [(0, .tmp 30)]) (z := .string ⟨#[]⟩) (xs := [nm ++ itoS z]) (m := 0) hk (hT := eT rfl) (hE := zT rfl) (hz := oT rfl)
      refine obe_nil ⟨rfl, ?_⟩; intro us a w hk hS
      simp only [resE] at hS
      generalize durA (D.take i) = Y at *
      (repeat' (first | (show wpListIn _ _ _ _ _ (_ :: _) _ _; first | (refine wx1 ?_; clear hk a; intro a hk) | (refine wx2 ?_ ?_ <;> (intro hp; clear hk a; intro a hk)) | (refine wx3 ?_; clear hk hS a; intro w b hS a hk) | (refine wx4 ?_; clear hk hS a; intro w hS a hk) | (refine wx5 ?_; clear hk hS a; intro w v hS a hk) | fail) | refine wx0 ?_ | (refine s_end hk ?_; clear hk a; intro a hk) | fail))
      rename Value => v8
      rw [← hst1] at hS
      exact ⟨hil, v8, hk.sd, hS.sub (by (repeat (first | exact Sub.nil | exact Sub.refl | refine Sub.cons (by (repeat (first | exact At.here | apply At.there))) ?_))), by rw [hst1, List.length_append]; simp only [List.length_cons, List.length_nil]; omega⟩
  · have hii : i = D.length := by omega
    subst hii
    rw [List.take_length] at hS hdl
    have hopt : optW (e, lv, m, d, p, q) = durA D ++ (if p = true then [wAppear] else []) ++ (if q = true then [wMoves] else []) ++ modeW d := by
      rw [← hD]; simp [optW, durA]
    rw [hopt]
    generalize durA D = Y at *
    rw [hDl] at hdl
    by_cases h1 : d = 1
    · have hmw : modeW d = [wOutIn] := if_pos h1
      rw [hmw]
      cases p <;> cases q
      all_goals (repeat' (first | (show wpListIn _ _ _ _ _ (_ :: _) _ _; first | (refine wx1 ?_; clear hk a; intro a hk) | (refine wx2 ?_ ?_ <;> (intro hp; clear hk a; intro a hk)) | (refine wx3 ?_; clear hk hS a; intro w b hS a hk) | (refine wx4 ?_; clear hk hS a; intro w hS a hk) | (refine wx5 ?_; clear hk hS a; intro w v hS a hk) | fail) | refine wx0 ?_ | (refine s_end hk ?_; clear hk a; intro a hk) | fail))
      all_goals (refine done1 hk (h := ?_); have hS2 := hS.sub (L' := [OwT 9 _ _]) (.cons At.here .nil); simpa [wOutIn, wInOut, wAppear, wMoves] using hS2)
    by_cases h2 : d = 2
    · have hmw : modeW d = [wInOut] := by unfold modeW; rw [if_neg h1, if_pos h2]
      rw [hmw]
      cases p <;> cases q
      all_goals (repeat' (first | (show wpListIn _ _ _ _ _ (_ :: _) _ _; first | (refine wx1 ?_; clear hk a; intro a hk) | (refine wx2 ?_ ?_ <;> (intro hp; clear hk a; intro a hk)) | (refine wx3 ?_; clear hk hS a; intro w b hS a hk) | (refine wx4 ?_; clear hk hS a; intro w hS a hk) | (refine wx5 ?_; clear hk hS a; intro w v hS a hk) | fail) | refine wx0 ?_ | (refine s_end hk ?_; clear hk a; intro a hk) | fail))
      all_goals (refine done1 hk (h := ?_); have hS2 := hS.sub (L' := [OwT 9 _ _]) (.cons At.here .nil); simpa [wOutIn, wInOut, wAppear, wMoves] using hS2)
    · have hmw : modeW d = [] := by unfold modeW; rw [if_neg h1, if_neg h2]
      rw [hmw]
      cases p <;> cases q
      all_goals (repeat' (first | (show wpListIn _ _ _ _ _ (_ :: _) _ _; first | (refine wx1 ?_; clear hk a; intro a hk) | (refine wx2 ?_ ?_ <;> (intro hp; clear hk a; intro a hk)) | (refine wx3 ?_; clear hk hS a; intro w b hS a hk) | (refine wx4 ?_; clear hk hS a; intro w hS a hk) | (refine wx5 ?_; clear hk hS a; intro w v hS a hk) | fail) | refine wx0 ?_ | (refine s_end hk ?_; clear hk a; intro a hk) | fail))
      all_goals (refine done1 hk (h := ?_); have hS2 := hS.sub (L' := [OwT 9 _ _]) (.cons At.here .nil); simpa [wOutIn, wInOut, wAppear, wMoves] using hS2)
end Go.Proofs.YtipdgobplfkipaaGreatDoor
namespace Go.Proofs.YtipdgobplfkipaaGreatDoor
open Go.RowKit
set_option maxRecDepth 100000
attribute [local irreducible] Go.Code.wpIn Go.wpListIn Go.Calls Gives Go.Exit.then Go.Exit.inBlock Done ObxE

theorem dur_len (nm : ByteArray) (x : Int) : (durW nm x).length ≤ 1 := by unfold durW; split <;> simp
theorem opt_len (o : Opt) : (optW o).length ≤ 6 := by
  have h1 := dur_len (wEnter ++ ⟨#[61]⟩) o.1
  have h2 := dur_len (wLeave ++ ⟨#[61]⟩) o.2.1
  have h3 := dur_len (wMove ++ ⟨#[61]⟩) o.2.2.1
  have h4 : (if o.2.2.2.2.1 = true then [wAppear] else []).length ≤ 1 := by split <;> simp
  have h5 : (if o.2.2.2.2.2 = true then [wMoves] else []).length ≤ 1 := by split <;> simp
  have h6 : (modeW o.2.2.2.1).length ≤ 1 := by unfold modeW; split <;> (try split) <;> simp
  unfold optW
  simp only [List.length_append]
  omega
set_option maxHeartbeats 16000000 in
theorem items_any (k : Int) (tag key text : ByteArray) (cl : List ByteArray) (al : List PrS) (sl : List PrI) (e lv m d : Int) (p q : Bool) (a1 a2 a3 a4 : Option Addr) (m1 m2 m3 m4 hn : Nat) (w0 : World) (ht : TabW w0)
    (c1 : SlT cl (.slice a1 cl.length m1) w0) (c2 : SlT al (.slice a2 al.length m2) w0) (c3 : SlT sl (.slice a3 sl.length m3) w0)
    (l1 : cl.length ≤ 1000) (l2 : al.length ≤ 1000) (l3 : sl.length ≤ 1000) (zk : key.size ≤ 1000000) (zc : ∀ c ∈ cl, c.size ≤ 1000000) (za : ∀ x ∈ snapF nmS al, x.1.size ≤ 1000000 ∧ x.2.size ≤ 1000000) (zs : ∀ x ∈ snapF nmI sl, x.1.size ≤ 1000000 ∧ i64R x.2)
    (he : i64R e) (hl : i64R lv) (hm : i64R m) :
    Calls Tryz.prog 39 #[.agg #[.int .i64 k, .string tag, .string key, .string text, .slice a1 cl.length m1, .slice a2 al.length m2, .slice a3 sl.length m3, .int .i64 e, .int .i64 lv, .int .i64 m, .int .i64 d, .bool p, .bool q, .slice a4 hn m4]] w0 (Ret fun v w => St w0 [OwT 9 (tag :: itmW k key cl (snapF nmS al) (snapF nmI sl) (e, lv, m, d, p, q)) v] w) := by
  have e46 : ByteArray.size ⟨#[46]⟩ = 1 := rfl
  have e35 : ByteArray.size ⟨#[35]⟩ = 1 := rfl
  have e61 : ByteArray.size ⟨#[61]⟩ = 1 := rfl
  have e64 : ByteArray.size ⟨#[64]⟩ = 1 := rfl
  have ha := snap_len nmS al
  have hs := snap_len nmI sl
  have zA : ∀ x ∈ snapF nmS al, x.1.size ≤ 1000000 ∧ x.2.size ≤ 1000000 := za
  have zS : ∀ x ∈ snapF nmI sl, x.1.size ≤ 1000000 ∧ i64R x.2 := zs
  have hof := fun w0 (hv : SlT al (.slice a2 al.length m2) w0) => ofS_any al (.slice a2 al.length m2) w0 hv (by omega)
  have hoi := fun w0 (hv : SlT sl (.slice a3 sl.length m3) w0) => ofI_any sl (.slice a3 sl.length m3) w0 hv (by omega)
  unfold itmW
  generalize snapF nmS al = A at *
  generalize snapF nmI sl = S at *
  refine enter Tryz.func39 rfl Tryz.ntmps39 rfl (fun a hk => ?_); have hS := St.refl w0
  refine wpIn_seq ?_; refine wpIn_region_lit ?_
  refine st_box hk hS ?_; clear hk hS a; intro w b1 hS a hk
  have c1' := hS.rdT c1
  have hx0 : (tag :: keyW key).length ≤ 2 := by unfold keyW; split <;> simp
  have hfin : ∀ K O : List ByteArray, (tag :: (keyW key ++ cl.map clsW ++ A.map attW ++ S.map styW ++ K ++ O)) = ((tag :: keyW key) ++ cl.map clsW ++ A.map attW ++ S.map styW) ++ K ++ O := fun K O => by simp
  by_cases hk0 : key = ⟨#[]⟩
  focus
    have hkw : keyW key = [] := if_pos hk0
    (repeat' (first | (show wpListIn _ _ _ _ _ (_ :: _) _ _; first | (refine wx1 ?_; clear hk a; intro a hk) | (refine wx2 ?_ ?_ <;> (intro hp; clear hk a; intro a hk)) | (refine wx3 ?_; clear hk hS a; intro w b hS a hk) | (refine wx4 ?_; clear hk hS a; intro w hS a hk) | (refine wx5 ?_; clear hk hS a; intro w v hS a hk) | fail) | refine wx0 ?_ | (refine s_end hk ?_; clear hk a; intro a hk) | fail))
    rename Value => v6
    replace hS : St w0 [OwT 9 ((tag :: keyW key) ++ (cl.take 0).map clsW) v6, pts b1 [.int .i64 k, .string tag, .string key, .string text, .slice a1 cl.length m1, .slice a2 al.length m2, .slice a3 sl.length m3, .int .i64 e, .int .i64 lv, .int .i64 m, .int .i64 d, .bool p, .bool q, .slice a4 hn m4] 33] w := by rw [hkw]; exact hS.sub (by (repeat (first | exact Sub.nil | exact Sub.refl | refine Sub.cons (by (repeat (first | exact At.here | apply At.there))) ?_)))
    replace hk := Kn.kp [1, 3, 23, 24, 25] hk
    clear hkw
  rotate_left
  focus
    have hkw : keyW key = [⟨#[35]⟩ ++ key] := if_neg hk0
    (repeat' (first | (show wpListIn _ _ _ _ _ (_ :: _) _ _; first | (refine wx1 ?_; clear hk a; intro a hk) | (refine wx2 ?_ ?_ <;> (intro hp; clear hk a; intro a hk)) | (refine wx3 ?_; clear hk hS a; intro w b hS a hk) | (refine wx4 ?_; clear hk hS a; intro w hS a hk) | (refine wx5 ?_; clear hk hS a; intro w v hS a hk) | fail) | refine wx0 ?_ | (refine s_end hk ?_; clear hk a; intro a hk) | fail))
    refine sg hk (g_cat (s := ⟨#[35]⟩) (r := key) hk ?_ (hl := by simp only [maxLen]; omega)); clear hk a; intro a hk
    (repeat' (first | (show wpListIn _ _ _ _ _ (_ :: _) _ _; first | (refine wx1 ?_; clear hk a; intro a hk) | (refine wx2 ?_ ?_ <;> (intro hp; clear hk a; intro a hk)) | (refine wx3 ?_; clear hk hS a; intro w b hS a hk) | (refine wx4 ?_; clear hk hS a; intro w hS a hk) | (refine wx5 ?_; clear hk hS a; intro w v hS a hk) | fail) | refine wx0 ?_ | (refine s_end hk ?_; clear hk a; intro a hk) | fail))
    rename Value => v6
    replace hS : St w0 [OwT 9 ((tag :: keyW key) ++ (cl.take 0).map clsW) v6, pts b1 [.int .i64 k, .string tag, .string key, .string text, .slice a1 cl.length m1, .slice a2 al.length m2, .slice a3 sl.length m3, .int .i64 e, .int .i64 lv, .int .i64 m, .int .i64 d, .bool p, .bool q, .slice a4 hn m4] 33] w := by rw [hkw]; exact hS.sub (by (repeat (first | exact Sub.nil | exact Sub.refl | refine Sub.cons (by (repeat (first | exact At.here | apply At.there))) ?_)))
    replace hk := Kn.kp [1, 3, 23, 24, 25] hk
    clear hkw
  all_goals
    generalize tag :: keyW key = X0 at *
    refine wp_for cl.length (fun i v => [(3, v), (25, .int .i64 (i : Int))]) (fun i v => [OwT 9 (X0 ++ (cl.take i).map clsW) v, pts b1 [.int .i64 k, .string tag, .string key, .string text, .slice a1 cl.length m1, .slice a2 al.length m2, .slice a3 sl.length m3, .int .i64 e, .int .i64 lv, .int .i64 m, .int .i64 d, .bool p, .bool q, .slice a4 hn m4] 33]) (fun _ _ => True) v6 hk (by repeat (first | exact trivial | refine ⟨rfl, ?_⟩)) hS.sb trivial ?_
    clear hk hS a c1'
    rintro i v7 a w hi hk hS -
    have c1' := hS.rdT c1
    have hxl : (X0 ++ (cl.take i).map clsW).length = X0.length + i := by rw [List.length_append, List.length_map, List.length_take]; omega
    by_cases hil : i < cl.length
    · obtain ⟨c, hx⟩ : ∃ x, cl[i]? = some x := ⟨_, List.getElem?_eq_getElem hil⟩
      have hcs := zc c (List.mem_of_getElem? hx)
      have hst : X0 ++ (cl.take (i + 1)).map clsW = (X0 ++ (cl.take i).map clsW) ++ [clsW c] := by rw [take_snoc hx, List.map_append, List.append_assoc]; rfl
      generalize X0 ++ (cl.take i).map clsW = Y at *
      (repeat' (first | (show wpListIn _ _ _ _ _ (_ :: _) _ _; first | (refine wx1 ?_; clear hk a; intro a hk) | (refine wx2 ?_ ?_ <;> (intro hp; clear hk a; intro a hk)) | (refine wx3 ?_; clear hk hS a; intro w b hS a hk) | (refine wx4 ?_; clear hk hS a; intro w hS a hk) | (refine wx5 ?_; clear hk hS a; intro w v hS a hk) | fail) | refine wx0 ?_ | (refine s_end hk ?_; clear hk a; intro a hk) | fail))
      refine sg hk (g_cat (s := ⟨#[46]⟩) (r := c) hk ?_ (hl := by simp only [maxLen]; omega)); clear hk a; intro a hk
      (repeat' (first | (show wpListIn _ _ _ _ _ (_ :: _) _ _; first | (refine wx1 ?_; clear hk a; intro a hk) | (refine wx2 ?_ ?_ <;> (intro hp; clear hk a; intro a hk)) | (refine wx3 ?_; clear hk hS a; intro w b hS a hk) | (refine wx4 ?_; clear hk hS a; intro w hS a hk) | (refine wx5 ?_; clear hk hS a; intro w v hS a hk) | fail) | refine wx0 ?_ | (refine s_end hk ?_; clear hk a; intro a hk) | fail))
      rename Value => v8
      rw [show (⟨#[46]⟩ : ByteArray) ++ c = clsW c from rfl, ← hst] at hS
      exact ⟨hil, v8, hk.sd, hS.sub (by (repeat (first | exact Sub.nil | exact Sub.refl | refine Sub.cons (by (repeat (first | exact At.here | apply At.there))) ?_))), trivial⟩
    · have hii : i = cl.length := by omega
      subst hii
      rw [List.take_length] at hS hxl
      generalize hX1 : X0 ++ cl.map clsW = X1 at *
      have c2' := hS.rdT c2
      (repeat' (first | (show wpListIn _ _ _ _ _ (_ :: _) _ _; first | (refine wx1 ?_; clear hk a; intro a hk) | (refine wx2 ?_ ?_ <;> (intro hp; clear hk a; intro a hk)) | (refine wx3 ?_; clear hk hS a; intro w b hS a hk) | (refine wx4 ?_; clear hk hS a; intro w hS a hk) | (refine wx5 ?_; clear hk hS a; intro w v hS a hk) | fail) | refine wx0 ?_ | (refine s_end hk ?_; clear hk a; intro a hk) | fail))
      refine sg hk (g_callO hk (hf := by kernel_rfl) (hc := hof _ (hS.rdT c2)) (h := ?_)); clear hk a; rintro va w hS1 a hk; replace hS := hS.call hS1; clear hS1
      rw [List.cons_append, List.nil_append] at hS
      obtain ⟨aova, cva, hshp, _⟩ := (OwT.rd (hS.rd (A := OwT 76 _ va) (by (repeat (first | exact At.here | apply At.there))))).shape; subst hshp
      (repeat' (first | (show wpListIn _ _ _ _ _ (_ :: _) _ _; first | (refine wx1 ?_; clear hk a; intro a hk) | (refine wx2 ?_ ?_ <;> (intro hp; clear hk a; intro a hk)) | (refine wx3 ?_; clear hk hS a; intro w b hS a hk) | (refine wx4 ?_; clear hk hS a; intro w hS a hk) | (refine wx5 ?_; clear hk hS a; intro w v hS a hk) | fail) | refine wx0 ?_ | (refine s_end hk ?_; clear hk a; intro a hk) | fail))
      replace hS : St w0 [OwT 9 (X1 ++ (A.take 0).map attW) v7, OwT 76 A (.slice aova A.length cva), pts b1 [.int .i64 k, .string tag, .string key, .string text, .slice a1 cl.length m1, .slice a2 al.length m2, .slice a3 sl.length m3, .int .i64 e, .int .i64 lv, .int .i64 m, .int .i64 d, .bool p, .bool q, .slice a4 hn m4] 33] w := by rw [List.take_zero, List.map_nil, List.append_nil]; exact hS.sub (by (repeat (first | exact Sub.nil | exact Sub.refl | refine Sub.cons (by (repeat (first | exact At.here | apply At.there))) ?_)))
      replace hk := Kn.kp [1, 3, 37, 38, 39] hk
      refine wp_for A.length (fun i v => [(3, v), (39, .int .i64 (i : Int))]) (fun i v => [OwT 9 (X1 ++ (A.take i).map attW) v, OwT 76 A (.slice aova A.length cva), pts b1 [.int .i64 k, .string tag, .string key, .string text, .slice a1 cl.length m1, .slice a2 al.length m2, .slice a3 sl.length m3, .int .i64 e, .int .i64 lv, .int .i64 m, .int .i64 d, .bool p, .bool q, .slice a4 hn m4] 33]) (fun _ _ => True) v7 hk (by repeat (first | exact trivial | refine ⟨rfl, ?_⟩)) hS.sb trivial ?_
      clear hk hS a c1' c2'
      rintro i v7 a w hi hk hS -
      have hxl2 : (X1 ++ (A.take i).map attW).length = X1.length + i := by rw [List.length_append, List.length_map, List.length_take]; omega
      by_cases hil : i < A.length
      · obtain ⟨⟨nm, val⟩, hx⟩ : ∃ x, A[i]? = some x := ⟨_, List.getElem?_eq_getElem hil⟩
        have hcs := zA _ (List.mem_of_getElem? hx)
        simp only at hcs
        have hst : X1 ++ (A.take (i + 1)).map attW = (X1 ++ (A.take i).map attW) ++ [attW (nm, val)] := by rw [take_snoc hx, List.map_append, List.append_assoc]; rfl
        generalize X1 ++ (A.take i).map attW = Y at *
        (repeat' (first | (show wpListIn _ _ _ _ _ (_ :: _) _ _; first | (refine wx1 ?_; clear hk a; intro a hk) | (refine wx2 ?_ ?_ <;> (intro hp; clear hk a; intro a hk)) | (refine wx3 ?_; clear hk hS a; intro w b hS a hk) | (refine wx4 ?_; clear hk hS a; intro w hS a hk) | (refine wx5 ?_; clear hk hS a; intro w v hS a hk) | fail) | refine wx0 ?_ | (refine s_end hk ?_; clear hk a; intro a hk) | fail))
        refine sg hk (g_cat (s := ⟨#[64]⟩) (r := nm) hk ?_ (hl := by simp only [ByteArray.size_append, maxLen]; omega)); clear hk a; intro a hk
        refine sg hk (g_cat (s := ⟨#[64]⟩ ++ nm) (r := ⟨#[61]⟩) hk ?_ (hl := by simp only [ByteArray.size_append, maxLen]; omega)); clear hk a; intro a hk
        (repeat' (first | (show wpListIn _ _ _ _ _ (_ :: _) _ _; first | (refine wx1 ?_; clear hk a; intro a hk) | (refine wx2 ?_ ?_ <;> (intro hp; clear hk a; intro a hk)) | (refine wx3 ?_; clear hk hS a; intro w b hS a hk) | (refine wx4 ?_; clear hk hS a; intro w hS a hk) | (refine wx5 ?_; clear hk hS a; intro w v hS a hk) | fail) | refine wx0 ?_ | (refine s_end hk ?_; clear hk a; intro a hk) | fail))
        refine sg hk (g_cat (s := ⟨#[64]⟩ ++ nm ++ ⟨#[61]⟩) (r := val) hk ?_ (hl := by simp only [ByteArray.size_append, maxLen]; omega)); clear hk a; intro a hk
        (repeat' (first | (show wpListIn _ _ _ _ _ (_ :: _) _ _; first | (refine wx1 ?_; clear hk a; intro a hk) | (refine wx2 ?_ ?_ <;> (intro hp; clear hk a; intro a hk)) | (refine wx3 ?_; clear hk hS a; intro w b hS a hk) | (refine wx4 ?_; clear hk hS a; intro w hS a hk) | (refine wx5 ?_; clear hk hS a; intro w v hS a hk) | fail) | refine wx0 ?_ | (refine s_end hk ?_; clear hk a; intro a hk) | fail))
        rename Value => v8
        rw [show (⟨#[64]⟩ : ByteArray) ++ nm ++ ⟨#[61]⟩ ++ val = attW (nm, val) from rfl, ← hst] at hS
        exact ⟨hil, v8, hk.sd, hS.sub (by (repeat (first | exact Sub.nil | exact Sub.refl | refine Sub.cons (by (repeat (first | exact At.here | apply At.there))) ?_))), trivial⟩
      · have hii : i = A.length := by omega
        subst hii
        rw [List.take_length] at hS hxl2
        generalize hX2 : X1 ++ A.map attW = X2 at *
        have c3' := hS.rdT c3
        (repeat' (first | (show wpListIn _ _ _ _ _ (_ :: _) _ _; first | (refine wx1 ?_; clear hk a; intro a hk) | (refine wx2 ?_ ?_ <;> (intro hp; clear hk a; intro a hk)) | (refine wx3 ?_; clear hk hS a; intro w b hS a hk) | (refine wx4 ?_; clear hk hS a; intro w hS a hk) | (refine wx5 ?_; clear hk hS a; intro w v hS a hk) | fail) | refine wx0 ?_ | (refine s_end hk ?_; clear hk a; intro a hk) | fail))
        refine sg hk (g_callO hk (hf := by kernel_rfl) (hc := hoi _ (hS.rdT c3)) (h := ?_)); clear hk a; rintro vs w hS1 a hk; replace hS := hS.call hS1; clear hS1
        rw [List.cons_append, List.nil_append] at hS
        obtain ⟨aovs, cvs, hshp, _⟩ := (OwT.rd (hS.rd (A := OwT 77 _ vs) (by (repeat (first | exact At.here | apply At.there))))).shape; subst hshp
        (repeat' (first | (show wpListIn _ _ _ _ _ (_ :: _) _ _; first | (refine wx1 ?_; clear hk a; intro a hk) | (refine wx2 ?_ ?_ <;> (intro hp; clear hk a; intro a hk)) | (refine wx3 ?_; clear hk hS a; intro w b hS a hk) | (refine wx4 ?_; clear hk hS a; intro w hS a hk) | (refine wx5 ?_; clear hk hS a; intro w v hS a hk) | fail) | refine wx0 ?_ | (refine s_end hk ?_; clear hk a; intro a hk) | fail))
        replace hS : St w0 [OwT 9 (X2 ++ (S.take 0).map styW) v7, OwT 77 S (.slice aovs S.length cvs), pts b1 [.int .i64 k, .string tag, .string key, .string text, .slice a1 cl.length m1, .slice a2 al.length m2, .slice a3 sl.length m3, .int .i64 e, .int .i64 lv, .int .i64 m, .int .i64 d, .bool p, .bool q, .slice a4 hn m4] 33] w := by rw [List.take_zero, List.map_nil, List.append_nil]; exact hS.sub (by (repeat (first | exact Sub.nil | exact Sub.refl | refine Sub.cons (by (repeat (first | exact At.here | apply At.there))) ?_)))
        replace hk := Kn.kp [1, 3, 56, 57, 58] hk
        refine wp_for S.length (fun i v => [(3, v), (58, .int .i64 (i : Int))]) (fun i v => [OwT 9 (X2 ++ (S.take i).map styW) v, OwT 77 S (.slice aovs S.length cvs), pts b1 [.int .i64 k, .string tag, .string key, .string text, .slice a1 cl.length m1, .slice a2 al.length m2, .slice a3 sl.length m3, .int .i64 e, .int .i64 lv, .int .i64 m, .int .i64 d, .bool p, .bool q, .slice a4 hn m4] 33]) (fun _ _ => True) v7 hk (by repeat (first | exact trivial | refine ⟨rfl, ?_⟩)) hS.sb trivial ?_
        clear hk hS a c3'
        rintro i v7 a w hi hk hS -
        have hxl3 : (X2 ++ (S.take i).map styW).length = X2.length + i := by rw [List.length_append, List.length_map, List.length_take]; omega
        by_cases hil : i < S.length
        · obtain ⟨⟨nm, z⟩, hx⟩ : ∃ x, S[i]? = some x := ⟨_, List.getElem?_eq_getElem hil⟩
          have hcs := zS _ (List.mem_of_getElem? hx)
          simp only at hcs
          have hzs := itoR_size hcs.2
          have hst : X2 ++ (S.take (i + 1)).map styW = (X2 ++ (S.take i).map styW) ++ [styW (nm, z)] := by rw [take_snoc hx, List.map_append, List.append_assoc]; rfl
          generalize X2 ++ (S.take i).map styW = Y at *
          (repeat' (first | (show wpListIn _ _ _ _ _ (_ :: _) _ _; first | (refine wx1 ?_; clear hk a; intro a hk) | (refine wx2 ?_ ?_ <;> (intro hp; clear hk a; intro a hk)) | (refine wx3 ?_; clear hk hS a; intro w b hS a hk) | (refine wx4 ?_; clear hk hS a; intro w hS a hk) | (refine wx5 ?_; clear hk hS a; intro w v hS a hk) | fail) | refine wx0 ?_ | (refine s_end hk ?_; clear hk a; intro a hk) | fail))
          refine wp_drawn 9 mixed (by kernel_rfl) hk hS ?_; clear hk hS a
          (repeat' (first | (show ObxE _ _ _ _ _ _ _ _ _ (_ :: _) _ _ _; first | refine ox1 ?_ | (refine ox2 ?_ ?_ <;> intro hp) | fail) | fail))
          refine' obe_val (fun us a w hk hd hS => ?_) ?_; rotate_left; focus (have hk := Kn.vw hk (by repeat (first | exact VW.nil | apply VW.val rfl | apply VW.base rfl rfl | apply VW.res rfl | apply VW.upd rfl | apply VW.cpy rfl | apply VW.dep rfl | apply VW.fn rfl | apply VW.lnd rfl | apply VW.tak rfl)); exact g_cat (s := nm) (r := ⟨#[61]⟩) hk (same _ _) (hl := by simp only [ByteArray.size_append, maxLen]; omega))
          (repeat' (first | (show ObxE _ _ _ _ _ _ _ _ _ (_ :: _) _ _ _; first | refine ox1 ?_ | (refine ox2 ?_ ?_ <;> intro hp) | fail) | fail))
          refine' obe_val (fun us a w hk hd hS => ?_) ?_; rotate_left; focus (have hk := Kn.vw hk (by repeat (first | exact VW.nil | apply VW.val rfl | apply VW.base rfl rfl | apply VW.res rfl | apply VW.upd rfl | apply VW.cpy rfl | apply VW.dep rfl | apply VW.fn rfl | apply VW.lnd rfl | apply VW.tak rfl)); exact g_callO hk (hf := by kernel_rfl) (hc := digits_any z hcs.2 _ (ht.mono hS.below)) (h := fun _ _ h => h))
          refine' obe_val (fun us a w hk hd hS => ?_) ?_; rotate_left; focus (have hk := Kn.vw hk (by repeat (first | exact VW.nil | apply VW.val rfl | apply VW.base rfl rfl | apply VW.res rfl | apply VW.upd rfl | apply VW.cpy rfl | apply VW.dep rfl | apply VW.fn rfl | apply VW.lnd rfl | apply VW.tak rfl)); exact g_cat (s := nm ++ ⟨#[61]⟩) (r := itoS z) hk (same _ _) (hl := by simp only [ByteArray.size_append, maxLen]; omega))
          refine' obe_res (V := OwT 9 [nm ++ ⟨#[61]⟩ ++ itoS z]) (fun us a w hk hd hS => ?_) ?_
          · have hk := Kn.vw hk (by repeat (first | exact VW.nil | apply VW.val rfl | apply VW.base rfl rfl | apply VW.res rfl | apply VW.upd rfl | apply VW.cpy rfl | apply VW.dep rfl | apply VW.fn rfl | apply VW.lnd rfl | apply VW.tak rfl))
            exact v_bsT (α := ByteArray) (T := 24) (E := 9) (q := [(0, .tmp 69)]) (z := .string ⟨#[]⟩) (xs := [nm ++ ⟨#[61]⟩ ++ itoS z]) (m := 0) hk (hT := eT rfl) (hE := zT rfl) (hz := oT rfl)
          refine obe_nil ⟨rfl, ?_⟩; intro us a w hk hS
          simp only [resE] at hS
          (repeat' (first | (show wpListIn _ _ _ _ _ (_ :: _) _ _; first | (refine wx1 ?_; clear hk a; intro a hk) | (refine wx2 ?_ ?_ <;> (intro hp; clear hk a; intro a hk)) | (refine wx3 ?_; clear hk hS a; intro w b hS a hk) | (refine wx4 ?_; clear hk hS a; intro w hS a hk) | (refine wx5 ?_; clear hk hS a; intro w v hS a hk) | fail) | refine wx0 ?_ | (refine s_end hk ?_; clear hk a; intro a hk) | fail))
          rename Value => v8
          rw [show (nm ++ ⟨#[61]⟩ ++ itoS z : ByteArray) = styW (nm, z) from rfl, ← hst] at hS
          exact ⟨hil, v8, hk.sd, hS.sub (by (repeat (first | exact Sub.nil | exact Sub.refl | refine Sub.cons (by (repeat (first | exact At.here | apply At.there))) ?_))), trivial⟩
        · have hii : i = S.length := by omega
          subst hii
          rw [List.take_length] at hS hxl3
          have hol := opt_len (e, lv, m, d, p, q)
          have hX3 : X0 ++ cl.map clsW ++ A.map attW ++ S.map styW = X2 ++ S.map styW := by rw [hX1, hX2]
          generalize X2 ++ S.map styW = X3 at *
          by_cases h3 : k = 3
          · have hkn : kindW k = [wGroup] := if_pos h3
            (repeat' (first | (show wpListIn _ _ _ _ _ (_ :: _) _ _; first | (refine wx1 ?_; clear hk a; intro a hk) | (refine wx2 ?_ ?_ <;> (intro hp; clear hk a; intro a hk)) | (refine wx3 ?_; clear hk hS a; intro w b hS a hk) | (refine wx4 ?_; clear hk hS a; intro w hS a hk) | (refine wx5 ?_; clear hk hS a; intro w v hS a hk) | fail) | refine wx0 ?_ | (refine s_end hk ?_; clear hk a; intro a hk) | fail))
            rename Value => v8
            replace hS : St w0 [OwT 9 (X3 ++ [wGroup]) v8, pts b1 [.int .i64 k, .string tag, .string key, .string text, .slice a1 cl.length m1, .slice a2 al.length m2, .slice a3 sl.length m3, .int .i64 e, .int .i64 lv, .int .i64 m, .int .i64 d, .bool p, .bool q, .slice a4 hn m4] 33] w := hS.sub (by (repeat (first | exact Sub.nil | exact Sub.refl | refine Sub.cons (by (repeat (first | exact At.here | apply At.there))) ?_)))
            refine sg hk (g_callO hk (hf := by kernel_rfl) (hc := options_any e lv m d p q he hl hm _ (ht.mono hS.below)) (h := ?_)); clear hk a; rintro vo w hS1 a hk; replace hS := hS.call hS1; clear hS1
            rw [List.cons_append, List.nil_append] at hS
            refine sg hk (g_appT (xs := X3 ++ [wGroup]) (ys := optW (e, lv, m, d, p, q)) hk hS ?_ (hT := eT rfl) (hTx := eT rfl) (hE := zT rfl) (hz := oT rfl) (hzs := rfl) (hs := (by first | exact St.rdT hS (by assumption) | exact OwT.rd (hS.rd (A := OwT _ _ _) (by (repeat (first | exact At.here | apply At.there)))) | assumption)) (hby := bT rfl) (hbytes := by (repeat rw [List.length_append]); (try simp only [List.length_cons, List.length_nil]); omega) (h63 := by (repeat rw [List.length_append]); (try simp only [List.length_cons, List.length_nil]); simp only [maxLen]; omega)); clear hk hS a; intro w vr hS a hk
            (repeat' (first | (show wpListIn _ _ _ _ _ (_ :: _) _ _; first | (refine wx1 ?_; clear hk a; intro a hk) | (refine wx2 ?_ ?_ <;> (intro hp; clear hk a; intro a hk)) | (refine wx3 ?_; clear hk hS a; intro w b hS a hk) | (refine wx4 ?_; clear hk hS a; intro w hS a hk) | (refine wx5 ?_; clear hk hS a; intro w v hS a hk) | fail) | refine wx0 ?_ | (refine s_end hk ?_; clear hk a; intro a hk) | fail))
            refine done1 hk (h := ?_)
            have hS2 : St w0 [OwT 9 (X3 ++ [wGroup] ++ optW (e, lv, m, d, p, q)) vr] w := hS.sub (.cons At.here .nil)
            rw [← hfin] at hS2
            rw [hkn]
            exact hS2
          by_cases h4 : k = 4
          · have hkn : kindW k = [wSlot] := by unfold kindW; rw [if_neg h3, if_pos h4]
            (repeat' (first | (show wpListIn _ _ _ _ _ (_ :: _) _ _; first | (refine wx1 ?_; clear hk a; intro a hk) | (refine wx2 ?_ ?_ <;> (intro hp; clear hk a; intro a hk)) | (refine wx3 ?_; clear hk hS a; intro w b hS a hk) | (refine wx4 ?_; clear hk hS a; intro w hS a hk) | (refine wx5 ?_; clear hk hS a; intro w v hS a hk) | fail) | refine wx0 ?_ | (refine s_end hk ?_; clear hk a; intro a hk) | fail))
            rename Value => v8
            replace hS : St w0 [OwT 9 (X3 ++ [wSlot]) v8, pts b1 [.int .i64 k, .string tag, .string key, .string text, .slice a1 cl.length m1, .slice a2 al.length m2, .slice a3 sl.length m3, .int .i64 e, .int .i64 lv, .int .i64 m, .int .i64 d, .bool p, .bool q, .slice a4 hn m4] 33] w := hS.sub (by (repeat (first | exact Sub.nil | exact Sub.refl | refine Sub.cons (by (repeat (first | exact At.here | apply At.there))) ?_)))
            refine sg hk (g_callO hk (hf := by kernel_rfl) (hc := options_any e lv m d p q he hl hm _ (ht.mono hS.below)) (h := ?_)); clear hk a; rintro vo w hS1 a hk; replace hS := hS.call hS1; clear hS1
            rw [List.cons_append, List.nil_append] at hS
            refine sg hk (g_appT (xs := X3 ++ [wSlot]) (ys := optW (e, lv, m, d, p, q)) hk hS ?_ (hT := eT rfl) (hTx := eT rfl) (hE := zT rfl) (hz := oT rfl) (hzs := rfl) (hs := (by first | exact St.rdT hS (by assumption) | exact OwT.rd (hS.rd (A := OwT _ _ _) (by (repeat (first | exact At.here | apply At.there)))) | assumption)) (hby := bT rfl) (hbytes := by (repeat rw [List.length_append]); (try simp only [List.length_cons, List.length_nil]); omega) (h63 := by (repeat rw [List.length_append]); (try simp only [List.length_cons, List.length_nil]); simp only [maxLen]; omega)); clear hk hS a; intro w vr hS a hk
            (repeat' (first | (show wpListIn _ _ _ _ _ (_ :: _) _ _; first | (refine wx1 ?_; clear hk a; intro a hk) | (refine wx2 ?_ ?_ <;> (intro hp; clear hk a; intro a hk)) | (refine wx3 ?_; clear hk hS a; intro w b hS a hk) | (refine wx4 ?_; clear hk hS a; intro w hS a hk) | (refine wx5 ?_; clear hk hS a; intro w v hS a hk) | fail) | refine wx0 ?_ | (refine s_end hk ?_; clear hk a; intro a hk) | fail))
            refine done1 hk (h := ?_)
            have hS2 : St w0 [OwT 9 (X3 ++ [wSlot] ++ optW (e, lv, m, d, p, q)) vr] w := hS.sub (.cons At.here .nil)
            rw [← hfin] at hS2
            rw [hkn]
            exact hS2
          · have hkn : kindW k = [] := by unfold kindW; rw [if_neg h3, if_neg h4]
            (repeat' (first | (show wpListIn _ _ _ _ _ (_ :: _) _ _; first | (refine wx1 ?_; clear hk a; intro a hk) | (refine wx2 ?_ ?_ <;> (intro hp; clear hk a; intro a hk)) | (refine wx3 ?_; clear hk hS a; intro w b hS a hk) | (refine wx4 ?_; clear hk hS a; intro w hS a hk) | (refine wx5 ?_; clear hk hS a; intro w v hS a hk) | fail) | refine wx0 ?_ | (refine s_end hk ?_; clear hk a; intro a hk) | fail))
            refine sg hk (g_callO hk (hf := by kernel_rfl) (hc := options_any e lv m d p q he hl hm _ (ht.mono hS.below)) (h := ?_)); clear hk a; rintro vo w hS1 a hk; replace hS := hS.call hS1; clear hS1
            rw [List.cons_append, List.nil_append] at hS
            refine sg hk (g_appT (xs := X3) (ys := optW (e, lv, m, d, p, q)) hk hS ?_ (hT := eT rfl) (hTx := eT rfl) (hE := zT rfl) (hz := oT rfl) (hzs := rfl) (hs := (by first | exact St.rdT hS (by assumption) | exact OwT.rd (hS.rd (A := OwT _ _ _) (by (repeat (first | exact At.here | apply At.there)))) | assumption)) (hby := bT rfl) (hbytes := by (repeat rw [List.length_append]); (try simp only [List.length_cons, List.length_nil]); omega) (h63 := by (repeat rw [List.length_append]); (try simp only [List.length_cons, List.length_nil]); simp only [maxLen]; omega)); clear hk hS a; intro w vr hS a hk
            (repeat' (first | (show wpListIn _ _ _ _ _ (_ :: _) _ _; first | (refine wx1 ?_; clear hk a; intro a hk) | (refine wx2 ?_ ?_ <;> (intro hp; clear hk a; intro a hk)) | (refine wx3 ?_; clear hk hS a; intro w b hS a hk) | (refine wx4 ?_; clear hk hS a; intro w hS a hk) | (refine wx5 ?_; clear hk hS a; intro w v hS a hk) | fail) | refine wx0 ?_ | (refine s_end hk ?_; clear hk a; intro a hk) | fail))
            refine done1 hk (h := ?_)
            have hS2 : St w0 [OwT 9 (X3 ++ [] ++ optW (e, lv, m, d, p, q)) vr] w := by rw [List.append_nil]; exact hS.sub (.cons At.here .nil)
            rw [← hfin] at hS2
            rw [hkn]
            exact hS2
end Go.Proofs.YtipdgobplfkipaaGreatDoor
namespace Go.Proofs.YtipdgobplfkipaaGreatDoor
open Go.RowKit
set_option maxRecDepth 100000
attribute [local irreducible] Go.Code.wpIn Go.wpListIn Go.Calls Gives Go.Exit.then Go.Exit.inBlock Done ObxE

set_option maxHeartbeats 8000000 in
theorem print_any : ∀ (n : Nat) (t : Tree) (h : NdH) (w0 : World), SizeOf.sizeOf t < n → PO t → (prnT (snapT t)).size ≤ 900000 → TrR w0 t h → TabW w0 → Calls Tryz.prog 17 #[ndV h] w0 (Ret fun v w => v = .string (prnT (snapT t)) ∧ St w0 [] w)
  | 0, _, _, _, hn, _, _, _, _ => by omega
  | n + 1, t, h, w0, hn, hf, hsz, hr, ht => by
    have ih := print_any n
    obtain ⟨k, tag, key, text, cl, al, sl, e, lv, m, d, p, q, kids, a1, m1, a2, m2, a3, m3, a4, m4, H, rfl, rfl, c1, c2, c3, c4, hF⟩ := hr.split
    obtain ⟨l1, l2, l3, l4, h5, h6, h7⟩ := hf
    have hHk : H.length = kids.length := hF.1
    have e39 : ByteArray.size ⟨#[39]⟩ = 1 := rfl
    have e40 : ByteArray.size ⟨#[40]⟩ = 1 := rfl
    have e41 : ByteArray.size ⟨#[41]⟩ = 1 := rfl
    have e46 : ByteArray.size ⟨#[46]⟩ = 1 := rfl
    have e35 : ByteArray.size ⟨#[35]⟩ = 1 := rfl
    have e61 : ByteArray.size ⟨#[61]⟩ = 1 := rfl
    have e64 : ByteArray.size ⟨#[64]⟩ = 1 := rfl
    rw [snapT, prnT] at hsz ⊢
    show Calls Tryz.prog 17 #[.agg #[.int .i64 k, .string tag, .string key, .string text, .slice a1 cl.length m1, .slice a2 al.length m2, .slice a3 sl.length m3, .int .i64 e, .int .i64 lv, .int .i64 m, .int .i64 d, .bool p, .bool q, .slice a4 H.length m4]] w0 _
    refine enter Tryz.func17 rfl Tryz.ntmps17 rfl (fun a hk => ?_); have hS := St.refl w0
    by_cases hk1 : k = 1
    · rw [if_pos hk1] at hsz ⊢
      simp only [ByteArray.size_append] at hsz
      (repeat' (first | (show wpListIn _ _ _ _ _ (_ :: _) _ _; first | (refine wx1 ?_; clear hk a; intro a hk) | (refine wx2 ?_ ?_ <;> (intro hp; clear hk a; intro a hk)) | (refine wx3 ?_; clear hk hS a; intro w b hS a hk) | (refine wx4 ?_; clear hk hS a; intro w hS a hk) | (refine wx5 ?_; clear hk hS a; intro w v hS a hk) | fail) | refine wx0 ?_ | (refine s_end hk ?_; clear hk a; intro a hk) | fail))
      refine sg hk (g_cat (s := ⟨#[39]⟩) (r := text) hk ?_ (hl := by simp only [ByteArray.size_append, maxLen]; omega)); clear hk a; intro a hk
      refine sg hk (g_cat (s := ⟨#[39]⟩ ++ text) (r := ⟨#[39]⟩) hk ?_ (hl := by simp only [ByteArray.size_append, maxLen]; omega)); clear hk a; intro a hk
      (repeat' (first | (show wpListIn _ _ _ _ _ (_ :: _) _ _; first | (refine wx1 ?_; clear hk a; intro a hk) | (refine wx2 ?_ ?_ <;> (intro hp; clear hk a; intro a hk)) | (refine wx3 ?_; clear hk hS a; intro w b hS a hk) | (refine wx4 ?_; clear hk hS a; intro w hS a hk) | (refine wx5 ?_; clear hk hS a; intro w v hS a hk) | fail) | refine wx0 ?_ | (refine s_end hk ?_; clear hk a; intro a hk) | fail))
      exact done1 hk (h := ⟨rfl, hS.nil⟩)
    · rw [if_neg hk1] at hsz ⊢
      rw [ByteArray.size_append, ByteArray.size_append, e40, e41] at hsz
      have hA := snap_len nmS al
      have hSn := snap_len nmI sl
      have hpc := fun y (hy : y ∈ tag :: (itmW k key cl (snapF nmS al) (snapF nmI sl) (e, lv, m, d, p, q) ++ prnL (snapTs kids))) => piece_le hy
      have hpi : ∀ y ∈ itmW k key cl (snapF nmS al) (snapF nmI sl) (e, lv, m, d, p, q), y.size ≤ 900000 := fun y hy => by
        have := hpc y (List.mem_cons_of_mem _ (List.mem_append_left _ hy)); omega
      have hpk : ∀ u ∈ kids, (prnT (snapT u)).size ≤ 900000 := fun u hu => by
        have := hpc (prnT (snapT u)) (List.mem_cons_of_mem _ (List.mem_append_right _ (by rw [prnL_map, snapTs_map, List.map_map]; exact List.mem_map.2 ⟨u, hu, rfl⟩)))
        omega
      have zk : key.size ≤ 1000000 := by
        by_cases h0 : key = ⟨#[]⟩
        · rw [h0]; exact Nat.zero_le _
        · have := hpi (⟨#[35]⟩ ++ key) (by unfold itmW keyW; rw [if_neg h0]; simp)
          rw [ByteArray.size_append] at this; omega
      have zc : ∀ c ∈ cl, c.size ≤ 1000000 := fun c hc => by
        have := hpi (⟨#[46]⟩ ++ c) (by unfold itmW; simp only [List.mem_append, List.mem_map]; exact .inl (.inl (.inl (.inl (.inr ⟨c, hc, rfl⟩)))))
        rw [ByteArray.size_append] at this; omega
      have za : ∀ x ∈ snapF nmS al, x.1.size ≤ 1000000 ∧ x.2.size ≤ 1000000 := fun x hx => by
        have := hpi (⟨#[64]⟩ ++ x.1 ++ ⟨#[61]⟩ ++ x.2) (by unfold itmW; simp only [List.mem_append, List.mem_map]; exact .inl (.inl (.inl (.inr ⟨x, hx, rfl⟩))))
        simp only [ByteArray.size_append] at this; omega
      have zs : ∀ x ∈ snapF nmI sl, x.1.size ≤ 1000000 ∧ i64R x.2 := fun x hx => by
        have := hpi (x.1 ++ ⟨#[61]⟩ ++ itoS x.2) (by unfold itmW; simp only [List.mem_append, List.mem_map]; exact .inl (.inl (.inr ⟨x, hx, rfl⟩)))
        simp only [ByteArray.size_append] at this
        exact ⟨by omega, h5 x (snap_mem nmI hx)⟩
      have hil0 : (itmW k key cl (snapF nmS al) (snapF nmI sl) (e, lv, m, d, p, q)).length ≤ 3008 := by
        have h1 := opt_len (e, lv, m, d, p, q)
        have h2 : (keyW key).length ≤ 1 := by unfold keyW; split <;> simp
        have h3 : (kindW k).length ≤ 1 := by unfold kindW; split <;> (try split) <;> simp
        unfold itmW
        simp only [List.length_append, List.length_map]
        omega
      have hfj := fold_join tag (itmW k key cl (snapF nmS al) (snapF nmI sl) (e, lv, m, d, p, q) ++ prnL (snapTs kids))
      have hit := fun w0 ht c1 c2 c3 => items_any k tag key text cl al sl e lv m d p q a1 a2 a3 a4 m1 m2 m3 m4 H.length w0 ht c1 c2 c3 l1 l2 l3 zk zc za zs h6.1 h6.2.1 h6.2.2
      generalize itmW k key cl (snapF nmS al) (snapF nmI sl) (e, lv, m, d, p, q) = I at *
      (repeat' (first | (show wpListIn _ _ _ _ _ (_ :: _) _ _; first | (refine wx1 ?_; clear hk a; intro a hk) | (refine wx2 ?_ ?_ <;> (intro hp; clear hk a; intro a hk)) | (refine wx3 ?_; clear hk hS a; intro w b hS a hk) | (refine wx4 ?_; clear hk hS a; intro w hS a hk) | (refine wx5 ?_; clear hk hS a; intro w v hS a hk) | fail) | refine wx0 ?_ | (refine s_end hk ?_; clear hk a; intro a hk) | fail))
      refine sg hk (g_callO hk (hf := by kernel_rfl) (hc := hit _ (ht.mono hS.below) (hS.rdT c1) (hS.rdT c2) (hS.rdT c3)) (h := ?_)); clear hk a; rintro v7 w hS1 a hk; replace hS := hS.call hS1; clear hS1
      rw [List.cons_append, List.nil_append] at hS
      have c4' := hS.rdT c4
      (repeat' (first | (show wpListIn _ _ _ _ _ (_ :: _) _ _; first | (refine wx1 ?_; clear hk a; intro a hk) | (refine wx2 ?_ ?_ <;> (intro hp; clear hk a; intro a hk)) | (refine wx3 ?_; clear hk hS a; intro w b hS a hk) | (refine wx4 ?_; clear hk hS a; intro w hS a hk) | (refine wx5 ?_; clear hk hS a; intro w v hS a hk) | fail) | refine wx0 ?_ | (refine s_end hk ?_; clear hk a; intro a hk) | fail))
      replace hS : St w0 [OwT 9 ((tag :: I) ++ prnL (snapTs (kids.take 0))) v7] w := by rw [List.take_zero, snapTs, prnL, List.append_nil]; exact hS.sub (by (repeat (first | exact Sub.nil | exact Sub.refl | refine Sub.cons (by (repeat (first | exact At.here | apply At.there))) ?_)))
      replace hk := Kn.kp [3, 16, 17, 18] hk
      refine wp_for H.length (fun i v => [(3, v), (18, .int .i64 (i : Int))]) (fun i v => [OwT 9 ((tag :: I) ++ prnL (snapTs (kids.take i))) v]) (fun _ _ => True) v7 hk (by repeat (first | exact trivial | refine ⟨rfl, ?_⟩)) hS.sb trivial ?_
      clear hk hS a c4'
      rintro i v7 a w hi hk hS -
      have c4' := hS.rdT c4
      have hxl : ((tag :: I) ++ prnL (snapTs (kids.take i))).length = I.length + 1 + i := by rw [List.length_append, List.length_cons, prnL_map, List.length_map, snapTs_len, List.length_take]; omega
      by_cases hil : i < H.length
      · obtain ⟨tk, htk⟩ : ∃ t, kids[i]? = some t := ⟨_, List.getElem?_eq_getElem (by omega)⟩
        obtain ⟨hd0, hx⟩ : ∃ x, H[i]? = some x := ⟨_, List.getElem?_eq_getElem hil⟩
        have hTr := hF.2 i tk hd0 htk hx
        have hmk := List.mem_of_getElem? htk
        have hlt : SizeOf.sizeOf tk < n := by have := kid_lt (k := k) (tag := tag) (key := key) (text := text) (cl := cl) (at_ := al) (st := sl) (o := (e, lv, m, d, p, q)) hmk; omega
        have hst : (tag :: I) ++ prnL (snapTs (kids.take (i + 1))) = ((tag :: I) ++ prnL (snapTs (kids.take i))) ++ [prnT (snapT tk)] := by rw [take_snoc htk, snapTs_app, prnL_app, List.append_assoc]; rfl
        generalize (tag :: I) ++ prnL (snapTs (kids.take i)) = Y at *
        obtain ⟨k', tag', key', text', ⟨x1, x2, x3⟩, ⟨y1, y2, y3⟩, ⟨z1, z2, z3⟩, ⟨e', lv', m', d', p', q'⟩, ⟨u1, u2, u3⟩⟩ := hd0
        (repeat' (first | (show wpListIn _ _ _ _ _ (_ :: _) _ _; first | (refine wx1 ?_; clear hk a; intro a hk) | (refine wx2 ?_ ?_ <;> (intro hp; clear hk a; intro a hk)) | (refine wx3 ?_; clear hk hS a; intro w b hS a hk) | (refine wx4 ?_; clear hk hS a; intro w hS a hk) | (refine wx5 ?_; clear hk hS a; intro w v hS a hk) | fail) | refine wx0 ?_ | (refine s_end hk ?_; clear hk a; intro a hk) | fail))
        refine sg hk (g_callO hk (hf := by kernel_rfl) (hc := ih tk (k', tag', key', text', ⟨x1, x2, x3⟩, ⟨y1, y2, y3⟩, ⟨z1, z2, z3⟩, (e', lv', m', d', p', q'), ⟨u1, u2, u3⟩) _ hlt (h7 tk hmk) (hpk tk hmk) (hS.rdTr hTr) (ht.mono hS.below)) (h := ?_)); clear hk a; rintro _ w ⟨rfl, hS1⟩ a hk; replace hS := hS.call0 hS1; clear hS1
        (repeat' (first | (show wpListIn _ _ _ _ _ (_ :: _) _ _; first | (refine wx1 ?_; clear hk a; intro a hk) | (refine wx2 ?_ ?_ <;> (intro hp; clear hk a; intro a hk)) | (refine wx3 ?_; clear hk hS a; intro w b hS a hk) | (refine wx4 ?_; clear hk hS a; intro w hS a hk) | (refine wx5 ?_; clear hk hS a; intro w v hS a hk) | fail) | refine wx0 ?_ | (refine s_end hk ?_; clear hk a; intro a hk) | fail))
        rename Value => v8
        rw [← hst] at hS
        exact ⟨hil, v8, hk.sd, hS.sub (by (repeat (first | exact Sub.nil | exact Sub.refl | refine Sub.cons (by (repeat (first | exact At.here | apply At.there))) ?_))), trivial⟩
      · have hii : i = kids.length := by omega
        subst hii
        rw [List.take_length] at hS hxl
        rw [List.cons_append] at hS hxl
        generalize prnL (snapTs kids) = Kd at *
        (repeat' (first | (show wpListIn _ _ _ _ _ (_ :: _) _ _; first | (refine wx1 ?_; clear hk a; intro a hk) | (refine wx2 ?_ ?_ <;> (intro hp; clear hk a; intro a hk)) | (refine wx3 ?_; clear hk hS a; intro w b hS a hk) | (refine wx4 ?_; clear hk hS a; intro w hS a hk) | (refine wx5 ?_; clear hk hS a; intro w v hS a hk) | fail) | refine wx0 ?_ | (refine s_end hk ?_; clear hk a; intro a hk) | fail))
        refine sg hk (g_callO hk (hf := by kernel_rfl) (hc := joinX_any 900000 (by omega) (tag :: (I ++ Kd)) (by simp) (by omega) (fun s hs => by have := hpc s hs; omega) v7 _ (by first | exact St.rdT hS (by assumption) | exact OwT.rd (hS.rd (A := OwT _ _ _) (by (repeat (first | exact At.here | apply At.there)))) | assumption)) (h := ?_)); clear hk a; rintro _ w ⟨rfl, hS1⟩ a hk; replace hS := hS.call0 hS1; clear hS1
        rw [← hfj] at hk
        refine sg hk (g_cat (s := ⟨#[40]⟩) (r := (I ++ Kd).foldl addW tag) hk ?_ (hl := by simp only [ByteArray.size_append, maxLen]; omega)); clear hk a; intro a hk
        refine sg hk (g_cat (s := ⟨#[40]⟩ ++ (I ++ Kd).foldl addW tag) (r := ⟨#[41]⟩) hk ?_ (hl := by simp only [ByteArray.size_append, maxLen]; omega)); clear hk a; intro a hk
        (repeat' (first | (show wpListIn _ _ _ _ _ (_ :: _) _ _; first | (refine wx1 ?_; clear hk a; intro a hk) | (refine wx2 ?_ ?_ <;> (intro hp; clear hk a; intro a hk)) | (refine wx3 ?_; clear hk hS a; intro w b hS a hk) | (refine wx4 ?_; clear hk hS a; intro w hS a hk) | (refine wx5 ?_; clear hk hS a; intro w v hS a hk) | fail) | refine wx0 ?_ | (refine s_end hk ?_; clear hk a; intro a hk) | fail))
        exact done1 hk (h := ⟨rfl, hS.nil⟩)
end Go.Proofs.YtipdgobplfkipaaGreatDoor
namespace Go.Proofs.YtipdgobplfkipaaGreatDoor
open Go.RowKit

def awk1 : ByteArray := ⟨#[40, 112, 32, 35, 97, 32, 46, 111, 110, 32, 119, 61, 51, 32, 39, 104, 105, 39, 41]⟩
def awk2 : ByteArray := ⟨#[40, 112, 32, 35, 97, 32, 35, 98, 41]⟩
theorem awk1_is : parseF awk1 = .ok (.mk 2 ⟨#[112]⟩ ⟨#[97]⟩ ⟨#[]⟩ [⟨#[111, 110]⟩] [] [(⟨#[119]⟩, 3)] o0 [.mk 1 ⟨#[]⟩ ⟨#[]⟩ ⟨#[104, 105]⟩ [] [] [] o0 []]) 0 := by kernel_rfl
theorem awk2_is : parseF awk2 = .no 6 2 := by kernel_rfl
def repB (x : List UInt8) : Nat → List UInt8
  | 0 => []
  | n + 1 => repB x n ++ x
def deepS (n : Nat) (wide : Bool) : ByteArray := ⟨(repB [40, 112, 32] n ++ (if wide then [39, 120, 39] else []) ++ repB [41] n).toArray⟩
def chnT (wide : Bool) : Nat → Tree
  | 0 => .mk 1 ⟨#[]⟩ ⟨#[]⟩ ⟨#[120]⟩ [] [] [] o0 []
  | n + 1 => .mk 2 ⟨#[112]⟩ ⟨#[]⟩ ⟨#[]⟩ [] [] [] o0 (if n = 0 ∧ wide = false then [] else [chnT wide n])
end Go.Proofs.YtipdgobplfkipaaGreatDoor
