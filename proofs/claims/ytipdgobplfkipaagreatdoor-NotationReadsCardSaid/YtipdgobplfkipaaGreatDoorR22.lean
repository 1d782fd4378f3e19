/- Layer 8: of any text there is just the document's view: the law. -/
import Derived.Test.YtipdgobplfkipaaGreatDoorR19
import Derived.Test.YtipdgobplfkipaaGreatDoorR21
import Derived.Test.YtipdgobplfkipaaGreatDoorR18
import Derived.Test.YtipdgobplfkipaaGreatDoorRows
import Derived.Lay
import Derived.SevenTiedAt
set_option linter.all false
namespace Go.Proofs.YtipdgobplfkipaaGreatDoor
open Go.RowKit
set_option maxRecDepth 100000
attribute [local irreducible] Go.Code.wpIn Go.wpListIn Go.Calls Gives Go.Exit.then Go.Exit.inBlock Done ObxE

theorem ParseR.flat {B : Bs} {L : List HP} {r : Rd Tree} {v : Value} {w : World} (h : ParseR B L r v w) : ParA B L r v w := by
  cases r with
  | ok t j =>
    obtain ⟨u, hv, hS⟩ := h
    obtain ⟨hd, hu, hS2⟩ := St.tree hS .here
    subst hu
    exact ⟨hd, hv, hS2⟩
  | no p e =>
    obtain ⟨rfl, hS⟩ := h
    exact ⟨noN, rfl, St.noTree hS⟩
theorem parT_fit {s : ByteArray} (hs : s.size ≤ 1000) : FitsW (parT (parseF s)).1 := by
  cases h : parseF s with
  | ok t j => exact fitw_snap (parse_fits hs h)
  | no p e => exact noT_fit
set_option maxHeartbeats 8000000 in
theorem notereads_any (s : ByteArray) (w0 : World) (ht : TabW w0) :
    Calls Tryz.prog 3 #[.string s] w0 (Ret fun v w => v = .bool true ∧ St w0 [] w) := by
  have hc := cutF_len s 800
  refine enter Tryz.func3 rfl Tryz.ntmps3 rfl (fun a hk => ?_); have hS := St.refl w0
  (repeat' (first | (show wpListIn _ _ _ _ _ (_ :: _) _ _; first | (refine wx1 ?_; clear hk a; intro a hk) | (refine wx2 ?_ ?_ <;> (intro hp; clear hk a; intro a hk)) | (refine wx3 ?_; clear hk hS a; intro w b hS a hk) | (refine wx4 ?_; clear hk hS a; intro w hS a hk) | (refine wx5 ?_; clear hk hS a; intro w v hS a hk) | fail) | refine wx0 ?_ | (refine s_end hk ?_; clear hk a; intro a hk) | fail))
  refine sg hk (g_callO hk (hf := by kernel_rfl) (hc := awake_any _ (ht.mono hS.below)) (h := ?_)); clear hk a; rintro _ w ⟨rfl, hS1⟩ a hk; replace hS := hS.call0 hS1; clear hS1
  (repeat' (first | (show wpListIn _ _ _ _ _ (_ :: _) _ _; first | (refine wx1 ?_; clear hk a; intro a hk) | (refine wx2 ?_ ?_ <;> (intro hp; clear hk a; intro a hk)) | (refine wx3 ?_; clear hk hS a; intro w b hS a hk) | (refine wx4 ?_; clear hk hS a; intro w hS a hk) | (refine wx5 ?_; clear hk hS a; intro w v hS a hk) | fail) | refine wx0 ?_ | (refine s_end hk ?_; clear hk a; intro a hk) | fail))
  refine sg hk (g_callO hk (hf := by kernel_rfl) (hc := cut_any s 800 _) (h := ?_)); clear hk a; rintro _ w ⟨rfl, hS1⟩ a hk; replace hS := hS.call0 hS1; clear hS1
  generalize cutF s 800 = s0 at *
  have hfit := parT_fit (s := s0) (by omega)
  (repeat' (first | (show wpListIn _ _ _ _ _ (_ :: _) _ _; first | (refine wx1 ?_; clear hk a; intro a hk) | (refine wx2 ?_ ?_ <;> (intro hp; clear hk a; intro a hk)) | (refine wx3 ?_; clear hk hS a; intro w b hS a hk) | (refine wx4 ?_; clear hk hS a; intro w hS a hk) | (refine wx5 ?_; clear hk hS a; intro w v hS a hk) | fail) | refine wx0 ?_ | (refine s_end hk ?_; clear hk a; intro a hk) | fail))
  refine sg hk (g_callO hk (hf := by kernel_rfl) (hc := parseL_any s0 (by omega) hS) (h := ?_)); clear hk hS a; intro vr w hS a hk
  obtain ⟨⟨k1, tag1, key1, text1, ⟨x11, x21, x31⟩, ⟨y11, y21, y31⟩, ⟨z11, z21, z31⟩, ⟨e1, lv1, m1, d1, p1, q1⟩, ⟨u11, u21, u31⟩⟩, rfl, hS1⟩ := ParseR.flat hS
  clear hS
  have hS := hS1
  clear hS1
  (repeat' (first | (show wpListIn _ _ _ _ _ (_ :: _) _ _; first | (refine wx1 ?_; clear hk a; intro a hk) | (refine wx2 ?_ ?_ <;> (intro hp; clear hk a; intro a hk)) | (refine wx3 ?_; clear hk hS a; intro w b hS a hk) | (refine wx4 ?_; clear hk hS a; intro w hS a hk) | (refine wx5 ?_; clear hk hS a; intro w v hS a hk) | fail) | refine wx0 ?_ | (refine s_end hk ?_; clear hk a; intro a hk) | fail))
  refine sg hk (g_callO hk (hf := by kernel_rfl) (hc := rparse8_any s0 (by omega) _ _ _ ht hS) (h := ?_)); clear hk hS a; intro vr w hS a hk
  obtain ⟨⟨k2, tag2, key2, text2, ⟨x12, x22, x32⟩, ⟨y12, y22, y32⟩, ⟨z12, z22, z32⟩, ⟨e2, lv2, m2, d2, p2, q2⟩, ⟨u12, u22, u32⟩⟩, rfl, hS1⟩ := hS
  have hS := hS1
  clear hS1
  generalize parT (parseF s0) = P at *
  obtain ⟨T, p, e⟩ := P
  simp only at hS hk hfit
  (repeat' (first | (show wpListIn _ _ _ _ _ (_ :: _) _ _; first | (refine wx1 ?_; clear hk a; intro a hk) | (refine wx2 ?_ ?_ <;> (intro hp; clear hk a; intro a hk)) | (refine wx3 ?_; clear hk hS a; intro w b hS a hk) | (refine wx4 ?_; clear hk hS a; intro w hS a hk) | (refine wx5 ?_; clear hk hS a; intro w v hS a hk) | fail) | refine wx0 ?_ | (refine s_end hk ?_; clear hk a; intro a hk) | fail))
  refine wp_drawn 13 mixed (by kernel_rfl) hk hS ?_; clear hk hS a
  (repeat' (first | (show ObxE _ _ _ _ _ _ _ _ _ (_ :: _) _ _ _; first | refine ox1 ?_ | (refine ox2 ?_ ?_ <;> intro hp) | fail) | fail))
  all_goals (try (exfalso; rename_i hp; exact absurd rfl hp))
  refine' obe_res (fun us a w hk hd hS => ?_) ?_; rotate_left; focus (have hk := Kn.vw hk (by repeat (first | exact VW.nil | apply VW.val rfl | apply VW.base rfl rfl | apply VW.res rfl | apply VW.upd rfl | apply VW.cpy rfl | apply VW.dep rfl | apply VW.fn rfl | apply VW.lnd rfl | apply VW.tak rfl)); exact g_callO hk (hf := by kernel_rfl) (hc := toldW_any _ T (k1, tag1, key1, text1, ⟨x11, x21, x31⟩, ⟨y11, y21, y31⟩, ⟨z11, z21, z31⟩, (e1, lv1, m1, d1, p1, q1), ⟨u11, u21, u31⟩) _ (Nat.lt_succ_self _) hfit (hS.trR (by (repeat (first | exact At.here | apply At.there))))) (h := fun _ _ h => h))
  (repeat' (first | (show ObxE _ _ _ _ _ _ _ _ _ (_ :: _) _ _ _; first | refine ox1 ?_ | (refine ox2 ?_ ?_ <;> intro hp) | fail) | fail))
  refine' obe_val (c := .bool true) (fun us a w hk hd hS => ?_) ?_
  · have hk := Kn.vw hk (by repeat (first | exact VW.nil | apply VW.val rfl | apply VW.base rfl rfl | apply VW.res rfl | apply VW.upd rfl | apply VW.cpy rfl | apply VW.dep rfl | apply VW.fn rfl | apply VW.lnd rfl | apply VW.tak rfl))
    obtain ⟨h, he, hr⟩ := treeH.rd (hd.1 : (treeH T (us 10)).rd w)
    simp only [Nat.zero_add, Nat.reduceAdd] at hk
    rw [he] at hk
    exact g_callO hk (hf := by kernel_rfl) (hc := justW_any _ T h (k2, tag2, key2, text2, ⟨x12, x22, x32⟩, ⟨y12, y22, y32⟩, ⟨z12, z22, z32⟩, (e2, lv2, m2, d2, p2, q2), ⟨u12, u22, u32⟩) _ (Nat.lt_succ_self _) hfit hr (hS.trR (by (repeat (first | exact At.here | apply At.there))))) (h := fun _ _ h => h)
  (repeat' (first | (show ObxE _ _ _ _ _ _ _ _ _ (_ :: _) _ _ _; first | refine ox1 ?_ | (refine ox2 ?_ ?_ <;> intro hp) | fail) | fail))
  refine obe_nil ⟨rfl, ?_⟩; intro us a w hk hS
  (repeat' (first | (show wpListIn _ _ _ _ _ (_ :: _) _ _; first | (refine wx1 ?_; clear hk a; intro a hk) | (refine wx2 ?_ ?_ <;> (intro hp; clear hk a; intro a hk)) | (refine wx3 ?_; clear hk hS a; intro w b hS a hk) | (refine wx4 ?_; clear hk hS a; intro w hS a hk) | (refine wx5 ?_; clear hk hS a; intro w v hS a hk) | fail) | refine wx0 ?_ | (refine s_end hk ?_; clear hk a; intro a hk) | fail))
  exact done1 hk (h := ⟨rfl, hS.nil⟩)
theorem laid_NotationReads {W : World} (hL : laidMetH Tryz.prog Rows.notationReadsRow.laid W) : TabW W := by
  rw [MakeChecks.laidMetH_plain _ _ _ (by kernel_rfl)] at hL
  have h2 := laid_tail (laid_tail hL)
  exact Lib.tabIs_of_head (g := 1) (t := 173) (by kernel_rfl) (by kernel_rfl) Tryz.underlying173 Tryz.underlying161 (by kernel_rfl) (by kernel_rfl) h2
theorem walk_NotationReads (W : World) (vs : List Value) (hL : laidMetH Tryz.prog Rows.notationReadsRow.laid W) (h : Args Tryz.prog W [9] vs) : Calls Tryz.prog 3 vs.toArray W (Ret fun v w => v = .bool true ∧ St W [] w) := by
  obtain ⟨v, rfl, ha⟩ := args1 h
  obtain ⟨s, rfl, _⟩ := ha.str (sT rfl) (aT rfl)
  exact notereads_any s W (laid_NotationReads hL)
end Go.Proofs.YtipdgobplfkipaaGreatDoor
