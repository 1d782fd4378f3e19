/- Layer 9: the laws: nodes of a tree are found, and numbered. Layer 7: flat nodes, as the form reads them. Layer 9: the table of powers of ten, as the form lays it. Layer 9: StillFinds from the form's reading. Layer 9: the static rendering by the reference: nodes that share what the view's hold. -/
import Derived.Test.YtkcjkbnbblpomaaGreatDoorS23
import Derived.Test.YtkcjkbnbblpomaaGreatDoorS24
import Derived.Test.YtkcjkbnbblpomaaGreatDoorS26
import Derived.Test.YtkcjkbnbblpomaaGreatDoorS17
import Derived.Test.YtkcjkbnbblpomaaGreatDoorS12
import Derived.Test.YtkcjkbnbblpomaaGreatDoorS05
import Derived.Test.YtkcjkbnbblpomaaGreatDoorS20
import Derived.Test.YtkcjkbnbblpomaaGreatDoorRows
import Derived.Lay
import Derived.SevenTiedAt
import Derived.Test.YtkcjkbnbblpomaaGreatDoorS18
set_option linter.all false
namespace Go.Proofs.YtkcjkbnbblpomaaGreatDoor
open Go.RowKit
set_option maxRecDepth 100000
attribute [local irreducible] Go.Code.wpIn Go.wpListIn Go.Calls Gives Go.Exit.then Go.Exit.inBlock Done ObxE

set_option maxHeartbeats 8000000 in
theorem stillfinds_any (F0 : List FlH) (v0 : Value) (id : Int) (w0 : World) (hv0 : SlT F0 v0 w0) (hR0 : ∀ h ∈ F0, FlR w0 h) (ht : TabW w0) : Calls Tryz.prog 4 #[v0, .int .i64 id] w0 (Ret fun v w => v = .bool true ∧ St w0 [] w) := by
  refine enter Tryz.func4 rfl Tryz.ntmps4 rfl (fun a hk => ?_); have hS := St.refl w0
  (repeat' (first | (show wpListIn _ _ _ _ _ (_ :: _) _ _; first | (refine wx1 ?_; clear hk a; intro a hk) | (refine wx2 ?_ ?_ <;> (intro hp; clear hk a; intro a hk)) | (refine wx3 ?_; clear hk hS a; intro w b hS a hk) | (refine wx4 ?_; clear hk hS a; intro w hS a hk) | (refine wx5 ?_; clear hk hS a; intro w v hS a hk) | fail) | refine wx0 ?_ | (refine s_end hk ?_; clear hk a; intro a hk) | fail))
  refine sg hk (g_callO hk (hf := by kernel_rfl) (hc := awake09_any _ (ht.mono hS.below)) (h := ?_)); clear hk a; rintro _ w ⟨rfl, hS1⟩ a hk; replace hS := hS.call0 hS1; clear hS1
  (repeat' (first | (show wpListIn _ _ _ _ _ (_ :: _) _ _; first | (refine wx1 ?_; clear hk a; intro a hk) | (refine wx2 ?_ ?_ <;> (intro hp; clear hk a; intro a hk)) | (refine wx3 ?_; clear hk hS a; intro w b hS a hk) | (refine wx4 ?_; clear hk hS a; intro w hS a hk) | (refine wx5 ?_; clear hk hS a; intro w v hS a hk) | fail) | refine wx0 ?_ | (refine s_end hk ?_; clear hk a; intro a hk) | fail))
  have hw0 : Frz w0 w0 := Frz.refl _
  have hv0' := hv0
  refine sg hk (g_callO hk (hf := by kernel_rfl) (hc := tree07_any F0 v0 25 (by omega) (by omega) _ (hS.rdT hv0') (fun h hh => (hR0 h hh).frz (hw0.trans hS.frz))) (h := ?_)); clear hk a; rintro vr w ⟨t0, hs0, hc0, hS1⟩ a hk; replace hS := hS.call hS1; clear hS1
  rw [List.cons_append] at hS
  obtain ⟨hd0, rfl, hS1⟩ := St.tree hS .here
  clear hS
  have hS := hS1
  clear hS1
  have hf0 := (hs0.fit (by omega)).fits
  refine sg hk (g_callO hk (hf := by kernel_rfl) (hc := from9_any (SizeOf.sizeOf t0 + 1) t0 hd0 1 _ (by omega) hf0 (by omega) (by omega) (hS.trR .here)) (h := ?_)); clear hk a; rintro vr w ⟨⟨pi, pk, pt, px, ⟨pa1, pa2, pa3⟩, ⟨pb1, pb2, pb3⟩, ⟨pc1, pc2, pc3⟩, ⟨pd1, pd2, pd3⟩⟩, rfl, hS1⟩ a hk; replace hS := hS.call hS1; clear hS1
  rw [List.cons_append, List.nil_append] at hS
  have hsf : SFits (frm t0 1) := frm_sfits hf0
  have hpc : (preT (frm t0 1)).length = cnt t0 := frm_pre t0 1
  generalize hTT : frm t0 1 = T at *
  (repeat' (first | (show wpListIn _ _ _ _ _ (_ :: _) _ _; first | (refine wx1 ?_; clear hk a; intro a hk) | (refine wx2 ?_ ?_ <;> (intro hp; clear hk a; intro a hk)) | (refine wx3 ?_; clear hk hS a; intro w b hS a hk) | (refine wx4 ?_; clear hk hS a; intro w hS a hk) | (refine wx5 ?_; clear hk hS a; intro w v hS a hk) | fail) | refine wx0 ?_ | (refine s_end hk ?_; clear hk a; intro a hk) | fail))
  obtain ⟨g1, hxg1, hrg1, hS1⟩ := hS.freeze (A := streeR T (pi, pk, pt, px, ⟨pa1, pa2, pa3⟩, ⟨pb1, pb2, pb3⟩, ⟨pc1, pc2, pc3⟩, ⟨pd1, pd2, pd3⟩)) (by (repeat (first | exact At.here | apply At.there)))
  clear hS
  have hS := hS1
  clear hS1
  have hxg1 : Frz w0 g1 := hxg1.1
  have hT1 : SrR g1 T (pi, pk, pt, px, ⟨pa1, pa2, pa3⟩, ⟨pb1, pb2, pb3⟩, ⟨pc1, pc2, pc3⟩, ⟨pd1, pd2, pd3⟩) := rdH.rd (SrR.stays _ _) hrg1
  replace hS : St ⟨g1, w0⟩ _ w := hS
  refine sg hk (g_callO hk (hf := by kernel_rfl) (hc := told9_any (SizeOf.sizeOf T + 1) T (pi, pk, pt, px, ⟨pa1, pa2, pa3⟩, ⟨pb1, pb2, pb3⟩, ⟨pc1, pc2, pc3⟩, ⟨pd1, pd2, pd3⟩) _ (by omega) hsf (hS.rdSr hT1)) (h := ?_)); clear hk a; rintro vn w hS1 a hk; replace hS := hS.call hS1; clear hS1
  rw [List.cons_append, List.nil_append] at hS
  obtain ⟨hd2, rfl, hS1⟩ := St.stree hS .here
  clear hS
  have hS := hS1
  clear hS1
  obtain ⟨qi, qk, qt, qx, ⟨qa1, qa2, qa3⟩, ⟨qb1, qb2, qb3⟩, ⟨qc1, qc2, qc3⟩, ⟨qd1, qd2, qd3⟩⟩ := hd2
  (repeat' (first | (show wpListIn _ _ _ _ _ (_ :: _) _ _; first | (refine wx1 ?_; clear hk a; intro a hk) | (refine wx2 ?_ ?_ <;> (intro hp; clear hk a; intro a hk)) | (refine wx3 ?_; clear hk hS a; intro w b hS a hk) | (refine wx4 ?_; clear hk hS a; intro w hS a hk) | (refine wx5 ?_; clear hk hS a; intro w v hS a hk) | fail) | refine wx0 ?_ | (refine s_end hk ?_; clear hk a; intro a hk) | fail))
  obtain ⟨g2, hxg2, hrg2, hS1⟩ := hS.freeze (A := streeR T (qi, qk, qt, qx, ⟨qa1, qa2, qa3⟩, ⟨qb1, qb2, qb3⟩, ⟨qc1, qc2, qc3⟩, ⟨qd1, qd2, qd3⟩)) (by (repeat (first | exact At.here | apply At.there)))
  clear hS
  have hS := hS1
  clear hS1
  have hxg2 : Frz g1 g2 := hxg2.1
  have hX2 : SrR g2 T (qi, qk, qt, qx, ⟨qa1, qa2, qa3⟩, ⟨qb1, qb2, qb3⟩, ⟨qc1, qc2, qc3⟩, ⟨qd1, qd2, qd3⟩) := rdH.rd (SrR.stays _ _) hrg2
  have hT2 := hT1.frz hxg2
  replace hS : St ⟨g2, w0⟩ _ w := hS
  refine sg hk (g_callO hk (hf := by kernel_rfl) (hc := find9_any g2 T (pi, pk, pt, px, ⟨pa1, pa2, pa3⟩, ⟨pb1, pb2, pb3⟩, ⟨pc1, pc2, pc3⟩, ⟨pd1, pd2, pd3⟩) id _ hsf (by omega) hS.frz hT2) (h := ?_)); clear hk a; rintro vr w ⟨⟨ri, rk, rt, rx, ⟨ra1, ra2, ra3⟩, ⟨rb1, rb2, rb3⟩, ⟨rc1, rc2, rc3⟩, ⟨rd1, rd2, rd3⟩⟩, rfl, hU, hS1⟩ a hk; replace hS := hS.call hS1; clear hS1
  rw [List.nil_append] at hS
  (repeat' (first | (show wpListIn _ _ _ _ _ (_ :: _) _ _; first | (refine wx1 ?_; clear hk a; intro a hk) | (refine wx2 ?_ ?_ <;> (intro hp; clear hk a; intro a hk)) | (refine wx3 ?_; clear hk hS a; intro w b hS a hk) | (refine wx4 ?_; clear hk hS a; intro w hS a hk) | (refine wx5 ?_; clear hk hS a; intro w v hS a hk) | fail) | refine wx0 ?_ | (refine s_end hk ?_; clear hk a; intro a hk) | fail))
  refine sg hk (g_callO hk (hf := by kernel_rfl) (hc := rfind9_any g2 (SizeOf.sizeOf T + 1) T (qi, qk, qt, qx, ⟨qa1, qa2, qa3⟩, ⟨qb1, qb2, qb3⟩, ⟨qc1, qc2, qc3⟩, ⟨qd1, qd2, qd3⟩) id _ (by omega) hsf hS.frz hX2) (h := ?_)); clear hk a; rintro vr w ⟨⟨yi, yk, yt, yx, ⟨ya1, ya2, ya3⟩, ⟨yb1, yb2, yb3⟩, ⟨yc1, yc2, yc3⟩, ⟨yd1, yd2, yd3⟩⟩, rfl, hV, hS1⟩ a hk; replace hS := hS.call hS1; clear hS1
  rw [List.nil_append] at hS
  (repeat' (first | (show wpListIn _ _ _ _ _ (_ :: _) _ _; first | (refine wx1 ?_; clear hk a; intro a hk) | (refine wx2 ?_ ?_ <;> (intro hp; clear hk a; intro a hk)) | (refine wx3 ?_; clear hk hS a; intro w b hS a hk) | (refine wx4 ?_; clear hk hS a; intro w hS a hk) | (refine wx5 ?_; clear hk hS a; intro w v hS a hk) | fail) | refine wx0 ?_ | (refine s_end hk ?_; clear hk a; intro a hk) | fail))
  have hids : idsT T = idsT T := rfl
  cases hfd : fndT T id with
  | none =>
    rw [hfd] at hk
    simp only [Option.isSome_none] at hk
    refine wp_drawn 26 mixed (by kernel_rfl) hk hS ?_; clear hk hS a
    (repeat' (first | (show ObxE _ _ _ _ _ _ _ _ _ (_ :: _) _ _ _; first | refine ox1 ?_ | (refine ox2 ?_ ?_ <;> intro hp) | fail) | fail))
    refine' obe_res (fun us a w hk hd hS => ?_) ?_; rotate_left; focus (have hk := Kn.vw hk (by repeat (first | exact VW.nil | apply VW.val rfl | apply VW.base rfl rfl | apply VW.res rfl | apply VW.upd rfl | apply VW.cpy rfl | apply VW.dep rfl | apply VW.fn rfl | apply VW.lnd rfl | apply VW.tak rfl)); exact g_callO hk (hf := by kernel_rfl) (hc := ids_any T (pi, pk, pt, px, ⟨pa1, pa2, pa3⟩, ⟨pb1, pb2, pb3⟩, ⟨pc1, pc2, pc3⟩, ⟨pd1, pd2, pd3⟩) _ hsf (by omega) (hS.rdSr hT2)) (h := fun _ _ h => h))
    (repeat' (first | (show ObxE _ _ _ _ _ _ _ _ _ (_ :: _) _ _ _; first | refine ox1 ?_ | (refine ox2 ?_ ?_ <;> intro hp) | fail) | fail))
    refine' obe_res (fun us a w hk hd hS => ?_) ?_; rotate_left; focus (have hk := Kn.vw hk (by repeat (first | exact VW.nil | apply VW.val rfl | apply VW.base rfl rfl | apply VW.res rfl | apply VW.upd rfl | apply VW.cpy rfl | apply VW.dep rfl | apply VW.fn rfl | apply VW.lnd rfl | apply VW.tak rfl)); exact g_callO hk (hf := by kernel_rfl) (hc := rids9_any (SizeOf.sizeOf T + 1) T (qi, qk, qt, qx, ⟨qa1, qa2, qa3⟩, ⟨qb1, qb2, qb3⟩, ⟨qc1, qc2, qc3⟩, ⟨qd1, qd2, qd3⟩) _ (by omega) hsf (by omega) (hS.rdSr hX2)) (h := fun _ _ h => h))
    refine' obe_val (fun us a w hk hd hS => ?_) ?_; rotate_left; focus (have hk := Kn.vw hk (by repeat (first | exact VW.nil | apply VW.val rfl | apply VW.base rfl rfl | apply VW.res rfl | apply VW.upd rfl | apply VW.cpy rfl | apply VW.dep rfl | apply VW.fn rfl | apply VW.lnd rfl | apply VW.tak rfl)); have h1 : (OwT 3 (idsT T) (us 14)).rd w := hd.1; have h2 : (OwT 3 (idsT T) (us 16)).rd w := hd.2.1; simp only [Nat.zero_add, Nat.reduceAdd] at hk; exact g_callO hk (hf := by kernel_rfl) (hc := (show Calls _ _ _ _ (Ret fun v w' => v = .bool true ∧ St w [] w') from (decide_eq_true hids) ▸ numbers_any (idsT T) (idsT T) _ _ _ (OwT.rd h1) (OwT.rd h2))) (h := fun _ _ h => h))
    (repeat' (first | (show ObxE _ _ _ _ _ _ _ _ _ (_ :: _) _ _ _; first | refine ox1 ?_ | (refine ox2 ?_ ?_ <;> intro hp) | fail) | fail))
    refine' obe_val (fun us a w hk hd hS => ?_) ?_; rotate_left; focus (have hk := Kn.vw hk (by repeat (first | exact VW.nil | apply VW.val rfl | apply VW.base rfl rfl | apply VW.res rfl | apply VW.upd rfl | apply VW.cpy rfl | apply VW.dep rfl | apply VW.fn rfl | apply VW.lnd rfl | apply VW.tak rfl)); exact g_callO hk (hf := by kernel_rfl) (hc := size9_any T (pi, pk, pt, px, ⟨pa1, pa2, pa3⟩, ⟨pb1, pb2, pb3⟩, ⟨pc1, pc2, pc3⟩, ⟨pd1, pd2, pd3⟩) _ hsf (by omega) (hS.rdSr hT2)) (h := fun _ _ h => h))
    (repeat' (first | (show ObxE _ _ _ _ _ _ _ _ _ (_ :: _) _ _ _; first | refine ox1 ?_ | (refine ox2 ?_ ?_ <;> intro hp) | fail) | fail))
    all_goals first | (exfalso; omega) | skip
    refine obe_nil ⟨rfl, ?_⟩; intro us a w hk hS
    (repeat' (first | (show wpListIn _ _ _ _ _ (_ :: _) _ _; first | (refine wx1 ?_; clear hk a; intro a hk) | (refine wx2 ?_ ?_ <;> (intro hp; clear hk a; intro a hk)) | (refine wx3 ?_; clear hk hS a; intro w b hS a hk) | (refine wx4 ?_; clear hk hS a; intro w hS a hk) | (refine wx5 ?_; clear hk hS a; intro w v hS a hk) | fail) | refine wx0 ?_ | (refine s_end hk ?_; clear hk a; intro a hk) | fail))
    exact done1 hk (h := ⟨rfl, hS.flat⟩)
  | some u =>
    have hum := fndT_mem hfd
    have hlt := preT_lt T u hum
    rw [hfd] at hk hU hV
    simp only [Option.isSome_some] at hk
    have hU1 := hU u rfl
    have hV1 := hV u rfl
    have his := fun w0 h1 h2 => is9_any u u (ri, rk, rt, rx, ⟨ra1, ra2, ra3⟩, ⟨rb1, rb2, rb3⟩, ⟨rc1, rc2, rc3⟩, ⟨rd1, rd2, rd3⟩) (yi, yk, yt, yx, ⟨ya1, ya2, ya3⟩, ⟨yb1, yb2, yb3⟩, ⟨yc1, yc2, yc3⟩, ⟨yd1, yd2, yd3⟩) w0 (hlt.2 hsf) (hlt.2 hsf) (by omega) (by omega) h1 h2
    rw [eqS_self, decide_eq_true rfl] at his
    refine wp_drawn 26 mixed (by kernel_rfl) hk hS ?_; clear hk hS a
    (repeat' (first | (show ObxE _ _ _ _ _ _ _ _ _ (_ :: _) _ _ _; first | refine ox1 ?_ | (refine ox2 ?_ ?_ <;> intro hp) | fail) | fail))
    refine' obe_val (fun us a w hk hd hS => ?_) ?_; rotate_left; focus (have hk := Kn.vw hk (by repeat (first | exact VW.nil | apply VW.val rfl | apply VW.base rfl rfl | apply VW.res rfl | apply VW.upd rfl | apply VW.cpy rfl | apply VW.dep rfl | apply VW.fn rfl | apply VW.lnd rfl | apply VW.tak rfl)); exact g_callO hk (hf := by kernel_rfl) (hc := his _ (hS.rdSr hU1) (hS.rdSr hV1)) (h := fun _ _ h => h))
    (repeat' (first | (show ObxE _ _ _ _ _ _ _ _ _ (_ :: _) _ _ _; first | refine ox1 ?_ | (refine ox2 ?_ ?_ <;> intro hp) | fail) | fail))
    refine' obe_res (fun us a w hk hd hS => ?_) ?_; rotate_left; focus (have hk := Kn.vw hk (by repeat (first | exact VW.nil | apply VW.val rfl | apply VW.base rfl rfl | apply VW.res rfl | apply VW.upd rfl | apply VW.cpy rfl | apply VW.dep rfl | apply VW.fn rfl | apply VW.lnd rfl | apply VW.tak rfl)); exact g_callO hk (hf := by kernel_rfl) (hc := ids_any T (pi, pk, pt, px, ⟨pa1, pa2, pa3⟩, ⟨pb1, pb2, pb3⟩, ⟨pc1, pc2, pc3⟩, ⟨pd1, pd2, pd3⟩) _ hsf (by omega) (hS.rdSr hT2)) (h := fun _ _ h => h))
    (repeat' (first | (show ObxE _ _ _ _ _ _ _ _ _ (_ :: _) _ _ _; first | refine ox1 ?_ | (refine ox2 ?_ ?_ <;> intro hp) | fail) | fail))
    refine' obe_res (fun us a w hk hd hS => ?_) ?_; rotate_left; focus (have hk := Kn.vw hk (by repeat (first | exact VW.nil | apply VW.val rfl | apply VW.base rfl rfl | apply VW.res rfl | apply VW.upd rfl | apply VW.cpy rfl | apply VW.dep rfl | apply VW.fn rfl | apply VW.lnd rfl | apply VW.tak rfl)); exact g_callO hk (hf := by kernel_rfl) (hc := rids9_any (SizeOf.sizeOf T + 1) T (qi, qk, qt, qx, ⟨qa1, qa2, qa3⟩, ⟨qb1, qb2, qb3⟩, ⟨qc1, qc2, qc3⟩, ⟨qd1, qd2, qd3⟩) _ (by omega) hsf (by omega) (hS.rdSr hX2)) (h := fun _ _ h => h))
    refine' obe_val (fun us a w hk hd hS => ?_) ?_; rotate_left; focus (have hk := Kn.vw hk (by repeat (first | exact VW.nil | apply VW.val rfl | apply VW.base rfl rfl | apply VW.res rfl | apply VW.upd rfl | apply VW.cpy rfl | apply VW.dep rfl | apply VW.fn rfl | apply VW.lnd rfl | apply VW.tak rfl)); have h1 : (OwT 3 (idsT T) (us 14)).rd w := hd.1; have h2 : (OwT 3 (idsT T) (us 16)).rd w := hd.2.1; simp only [Nat.zero_add, Nat.reduceAdd] at hk; exact g_callO hk (hf := by kernel_rfl) (hc := (show Calls _ _ _ _ (Ret fun v w' => v = .bool true ∧ St w [] w') from (decide_eq_true hids) ▸ numbers_any (idsT T) (idsT T) _ _ _ (OwT.rd h1) (OwT.rd h2))) (h := fun _ _ h => h))
    (repeat' (first | (show ObxE _ _ _ _ _ _ _ _ _ (_ :: _) _ _ _; first | refine ox1 ?_ | (refine ox2 ?_ ?_ <;> intro hp) | fail) | fail))
    refine' obe_val (fun us a w hk hd hS => ?_) ?_; rotate_left; focus (have hk := Kn.vw hk (by repeat (first | exact VW.nil | apply VW.val rfl | apply VW.base rfl rfl | apply VW.res rfl | apply VW.upd rfl | apply VW.cpy rfl | apply VW.dep rfl | apply VW.fn rfl | apply VW.lnd rfl | apply VW.tak rfl)); exact g_callO hk (hf := by kernel_rfl) (hc := size9_any T (pi, pk, pt, px, ⟨pa1, pa2, pa3⟩, ⟨pb1, pb2, pb3⟩, ⟨pc1, pc2, pc3⟩, ⟨pd1, pd2, pd3⟩) _ hsf (by omega) (hS.rdSr hT2)) (h := fun _ _ h => h))
    (repeat' (first | (show ObxE _ _ _ _ _ _ _ _ _ (_ :: _) _ _ _; first | refine ox1 ?_ | (refine ox2 ?_ ?_ <;> intro hp) | fail) | fail))
    all_goals first | (exfalso; omega) | skip
    refine obe_nil ⟨rfl, ?_⟩; intro us a w hk hS
    (repeat' (first | (show wpListIn _ _ _ _ _ (_ :: _) _ _; first | (refine wx1 ?_; clear hk a; intro a hk) | (refine wx2 ?_ ?_ <;> (intro hp; clear hk a; intro a hk)) | (refine wx3 ?_; clear hk hS a; intro w b hS a hk) | (refine wx4 ?_; clear hk hS a; intro w hS a hk) | (refine wx5 ?_; clear hk hS a; intro w v hS a hk) | fail) | refine wx0 ?_ | (refine s_end hk ?_; clear hk a; intro a hk) | fail))
    exact done1 hk (h := ⟨rfl, hS.flat⟩)
end Go.Proofs.YtkcjkbnbblpomaaGreatDoor
namespace Go.Proofs.YtkcjkbnbblpomaaGreatDoor
open Go.RowKit
set_option maxRecDepth 100000
attribute [local irreducible] Go.Code.wpIn Go.wpListIn Go.Calls Gives Go.Exit.then Go.Exit.inBlock Done ObxE

theorem rdg_attr {W : World} {D : Nat} {us : List Value} (h : Rdg Tryz.prog W (D + 2) 97 us) : ∃ x : ByteArray × ByteArray, Enc.f x = us := by
  have hl := rdg_len Tryz.underlying97 h (zT rfl)
  obtain ⟨a, ha, _⟩ := rdg_str (sT rfl) (rdg_fld Tryz.underlying97 h (i := 0) rfl (zT rfl))
  obtain ⟨b, hb, _⟩ := rdg_str (sT rfl) (rdg_fld Tryz.underlying97 h (i := 1) rfl (zT rfl))
  match us, hl with
  | [u0, u1], _ =>
    simp at ha hb
    subst ha hb
    exact ⟨(a, b), rfl⟩
theorem rdg_pair {W : World} {D : Nat} {us : List Value} (h : Rdg Tryz.prog W (D + 2) 105 us) : ∃ x : ByteArray × Int, Enc.f x = us ∧ in64 x.2 := by
  have hl := rdg_len Tryz.underlying105 h (zT rfl)
  obtain ⟨a, ha, _⟩ := rdg_str (sT rfl) (rdg_fld Tryz.underlying105 h (i := 0) rfl (zT rfl))
  obtain ⟨b, hb, hr⟩ := rdg_int (iT rfl) (rdg_fld Tryz.underlying105 h (i := 1) rfl (zT rfl))
  match us, hl with
  | [u0, u1], _ =>
    simp at ha hb
    subst ha hb
    exact ⟨(a, b), rfl, hr⟩
theorem rdg_opts {W : World} {D : Nat} {us : List Value} (h : Rdg Tryz.prog W (D + 2) 28 us) : ∃ x : Opt, Enc.f x = us ∧ in64 x.1 ∧ in64 x.2.1 ∧ in64 x.2.2.1 ∧ in64 x.2.2.2.1 := by
  have hl := rdg_len Tryz.underlying28 h (zT rfl)
  obtain ⟨a, ha, r1⟩ := rdg_int (iT rfl) (rdg_fld Tryz.underlying28 h (i := 0) rfl (zT rfl))
  obtain ⟨b, hb, r2⟩ := rdg_int (iT rfl) (rdg_fld Tryz.underlying28 h (i := 1) rfl (zT rfl))
  obtain ⟨c, hc, r3⟩ := rdg_int (iT rfl) (rdg_fld Tryz.underlying28 h (i := 2) rfl (zT rfl))
  obtain ⟨d, hd, r4⟩ := rdg_int (iT rfl) (rdg_fld Tryz.underlying28 h (i := 3) rfl (zT rfl))
  obtain ⟨e, he⟩ := rdg_bool Tryz.underlying4 (rdg_fld Tryz.underlying28 h (i := 4) rfl (zT rfl))
  obtain ⟨f, hf⟩ := rdg_bool Tryz.underlying4 (rdg_fld Tryz.underlying28 h (i := 5) rfl (zT rfl))
  match us, hl with
  | [u0, u1, u2, u3, u4, u5], _ =>
    simp at ha hb hc hd he hf
    subst ha hb hc hd he hf
    exact ⟨(a, b, c, d, e, f), rfl, r1, r2, r3, r4⟩

theorem rdg_flat {W : World} {D : Nat} {us : List Value} (h : Rdg Tryz.prog W (D + 4) 91 us) : ∃ x : FlH, Enc.f x = us ∧ FlR W x := by
  have hl := rdg_len Tryz.underlying91 h (zT rfl)
  obtain ⟨a, h0, r1⟩ := rdg_int (iT rfl) (rdg_fld Tryz.underlying91 h (i := 0) rfl (zT rfl))
  obtain ⟨b, h1, r2⟩ := rdg_int (iT rfl) (rdg_fld Tryz.underlying91 h (i := 1) rfl (zT rfl))
  obtain ⟨c, h2, _⟩ := rdg_str (sT rfl) (rdg_fld Tryz.underlying91 h (i := 2) rfl (zT rfl))
  obtain ⟨d, h3, _⟩ := rdg_str (sT rfl) (rdg_fld Tryz.underlying91 h (i := 3) rfl (zT rfl))
  obtain ⟨e, h4, _⟩ := rdg_str (sT rfl) (rdg_fld Tryz.underlying91 h (i := 4) rfl (zT rfl))
  obtain ⟨v5, cl, h5, g5, _⟩ := SlT.of_rdg (α := ByteArray) (fun _ => True) (rdg_fld Tryz.underlying91 h (i := 5) rfl (zT rfl)) (eT rfl) (zT rfl) (fun us _ h => by obtain ⟨s, hs, _⟩ := rdg_str (sT rfl) h; exact ⟨s, hs.symm, trivial⟩)
  obtain ⟨v6, al, h6, g6, _⟩ := SlT.of_rdg (α := ByteArray × ByteArray) (fun _ => True) (rdg_fld Tryz.underlying91 h (i := 6) rfl (zT rfl)) (eT rfl) (zT rfl) (fun us _ h => by obtain ⟨s, hs⟩ := rdg_attr h; exact ⟨s, hs, trivial⟩)
  obtain ⟨v7, sl, h7, g7, g8⟩ := SlT.of_rdg (α := ByteArray × Int) (fun x => in64 x.2) (rdg_fld Tryz.underlying91 h (i := 7) rfl (zT rfl)) (eT rfl) (zT rfl) (fun us _ h => by obtain ⟨s, hs, h2⟩ := rdg_pair h; exact ⟨s, hs, h2⟩)
  obtain ⟨⟨q0, q1, q2, q3, q4, q5⟩, h8, s1, s2, s3, s4⟩ := rdg_opts (rdg_fld Tryz.underlying91 h (i := 8) rfl (zT rfl))
  match us, hl with
  | [u0, u1, u2, u3, u4, u5, u6, u7, u8, u9, u10, u11, u12, u13], _ =>
    simp at h0 h1 h2 h3 h4 h5 h6 h7
    subst h0 h1 h2 h3 h4 h5 h6 h7
    obtain ⟨a5, c5, rfl, _⟩ := g5.shape
    obtain ⟨a6, c6, rfl, _⟩ := g6.shape
    obtain ⟨a7, c7, rfl, _⟩ := g7.shape
    have h8' : ([.int .i64 q0, .int .i64 q1, .int .i64 q2, .int .i64 q3, .bool q4, .bool q5] : List Value) = [u8, u9, u10, u11, u12, u13] := h8
    simp only [List.cons.injEq, and_true] at h8'
    obtain ⟨rfl, rfl, rfl, rfl, rfl, rfl⟩ := h8'
    exact ⟨(a, b, c, d, e, ⟨a5, cl.length, c5⟩, ⟨a6, al.length, c6⟩, ⟨a7, sl.length, c7⟩, (q0, q1, q2, q3, q4, q5)), rfl, a, b, c, d, e, cl, al, sl, q0, q1, q2, q3, q4, q5, a5, a6, a7, c5, c6, c7, rfl, g5, g6, g7, r1, r2, s1, s2, s3, s4, g8⟩

theorem arg_flats {W : World} {v : Value} (h : Arg Tryz.prog W 22 v) : ∃ F : List FlH, SlT F v W ∧ ∀ x ∈ F, FlR W x := by
  obtain ⟨u, xs, h1, h2, h3⟩ := SlT.of_rdg (α := FlH) (FlR W) (D := 7) h.1 (eT rfl) (zT rfl) (fun us _ h => rdg_flat (D := 3) h)
  rw [h.2.2 (aT rfl)] at h1
  simp at h1
  subst h1
  exact ⟨xs, h2, h3⟩
end Go.Proofs.YtkcjkbnbblpomaaGreatDoor
namespace Go.Proofs.YtkcjkbnbblpomaaGreatDoor
open Go.RowKit
set_option maxRecDepth 100000
attribute [local irreducible] Go.Code.wpIn Go.wpListIn Go.Calls Gives Go.Exit.then Go.Exit.inBlock Done ObxE

theorem laid9 {W : World} {x y z : String × DataW Unit} (hz : z = ("internal/strconv.uint64pow10", Rows.laid_internal_strconv_uint64pow10)) (h : laidMet Tryz.prog [x, y, z] W) : TabW W := by
  subst hz
  have h2 := laid_tail (laid_tail h)
  exact Lib.tabIs_of_head (g := 1) (t := 250) (by kernel_rfl) (by kernel_rfl) Tryz.underlying250 Tryz.underlying233 (by kernel_rfl) (by kernel_rfl) h2
end Go.Proofs.YtkcjkbnbblpomaaGreatDoor
namespace Go.Proofs.YtkcjkbnbblpomaaGreatDoor
open Go.RowKit
set_option maxRecDepth 100000
attribute [local irreducible] Go.Code.wpIn Go.wpListIn Go.Calls Gives Go.Exit.then Go.Exit.inBlock Done ObxE

theorem laid_StillFinds {W : World} (hL : laidMetH Tryz.prog Rows.stillFindsRow.laid W) : TabW W := by
  rw [MakeChecks.laidMetH_plain _ _ _ (by kernel_rfl)] at hL
  exact laid9 rfl hL
theorem walk_StillFinds (W : World) (vs : List Value) (hL : laidMetH Tryz.prog Rows.stillFindsRow.laid W) (h : Args Tryz.prog W [22, 3] vs) : Calls Tryz.prog 4 vs.toArray W (Ret fun v w => v = .bool true ∧ St W [] w) := by
  obtain ⟨v, u, rfl, ha, hb⟩ := args2 h
  obtain ⟨F, hv, hR⟩ := arg_flats ha
  obtain ⟨d, rfl, _⟩ := hb.int (iT rfl) (aT rfl)
  exact stillfinds_any F v d W hv hR (laid_StillFinds hL)
end Go.Proofs.YtkcjkbnbblpomaaGreatDoor
namespace Go.Proofs.YtkcjkbnbblpomaaGreatDoor
open Go.RowKit
set_option maxRecDepth 100000
attribute [local irreducible] Go.Code.wpIn Go.wpListIn Go.Calls Gives Go.Exit.then Go.Exit.inBlock Done ObxE

theorem rdH.ex {α : Type} {K : World → Prop} {R : α → World → Prop} (h : ∀ g, K g → ∃ x, R x g) {B : Bs} {w : World} {L : List HP} (hS : St B (rdH K :: L) w) : ∃ x, St B (rdH (fun g => K g ∧ R x g) :: L) w := by
  obtain ⟨F, hF, F1, F2, h1, h2, h3, ⟨hd, g, hl, hz, hk⟩, h5⟩ := hS.own
  obtain ⟨x, hx⟩ := h g hk
  exact ⟨x, hS.below, hS.frz, F, hF, F1, F2, h1, h2, h3, ⟨hd, g, hl, hz, hk, hx⟩, h5⟩
theorem rdH.to {K R : World → Prop} (h : ∀ g, K g → R g) {B : Bs} {w : World} {L : List HP} (hS : St B (rdH K :: L) w) : St B (rdH R :: L) w := by
  obtain ⟨F, hF, F1, F2, h1, h2, h3, ⟨hd, g, hl, hz, hk⟩, h5⟩ := hS.own
  exact ⟨hS.below, hS.frz, F, hF, F1, F2, h1, h2, h3, ⟨hd, g, hl, hz, h g hk⟩, h5⟩
theorem TrR.parts {g : World} {k k' : Int} {tag key text tag' key' text' : ByteArray} {cl : List ByteArray} {al : List (ByteArray × ByteArray)} {sl : List (ByteArray × Int)} {o o' : Opt} {kids : List Tree} {hc ha hs hk : Hd}
    (h : TrR g (.mk k tag key text cl al sl o kids) (k', tag', key', text', hc, ha, hs, o', hk)) : SlT cl hc.v g ∧ SlT al ha.v g ∧ SlT sl hs.v g ∧ ∃ H : List NdH, SlT H hk.v g ∧ FoR g kids H := by
  cases h with
  | mk h1 h2 h3 h4 hl hr => exact ⟨h1, h2, h3, _, h4, hl, hr⟩
theorem stays_and {K R : World → Prop} (h : Stays K) (h' : Stays R) : Stays (fun g => K g ∧ R g) := fun g w hf hr => ⟨h g w hf hr.1, h' g w hf hr.2⟩
def shH (K : World → Prop) (t : STree) (v : Value) : HP := bagH (fun h : SnH => [rdH (fun g => K g ∧ SrR g t h)]) (fun h => v = snV h)
theorem St.sh {K : World → Prop} {t : STree} {v : Value} {B : Bs} {w : World} {L L' : List HP} (hS : St B L w) (hat : At (shH K t v) L L') : ∃ h, v = snV h ∧ St B (rdH (fun g => K g ∧ SrR g t h) :: L') w := St.bag hS hat
theorem shH.of {K : World → Prop} {t : STree} {h : SnH} {B : Bs} {w : World} {L : List HP} (hS : St B (rdH (fun g => K g ∧ SrR g t h) :: L) w) : St B (shH K t (snV h) :: L) w := bagH.of (A := fun h : SnH => [rdH (fun g => K g ∧ SrR g t h)]) (x := h) hS rfl
theorem shH.rd {K : World → Prop} {t : STree} {v : Value} {w : World} (h : (shH K t v).rd w) : ∃ h, v = snV h := by
  obtain ⟨x, hp, _⟩ := bagH.rd h
  exact ⟨x, hp⟩

set_option maxHeartbeats 4000000 in
theorem rof9_any : ∀ (n : Nat) (t : Tree) (h : NdH) (K : World → Prop) (B : Bs) (L : List HP) (w : World), SizeOf.sizeOf t < n → Fits t → Stays K → (∀ g, K g → TrR g t h) → St B (rdH K :: L) w →
    Calls Tryz.prog 41 #[ndV h] w (Ret fun v w' => St B (shH K (stl t) v :: L) w')
  | 0, _, _, _, _, _, _, hn, _, _, _, _ => by omega
  | n + 1, t, h, K, B, L, w, hn, hf, hKs, hK, hS => by
    have ih := rof9_any n
    have hKw : K w := rdH.rd hKs (hS.rd .here)
    obtain ⟨k, tag, key, text, cl, al, sl, e, lv, m, d, p, q, kids, a1, m1, a2, m2, a3, m3, a4, m4, H0, rfl, rfl, -, -, -, -, hF0⟩ := (hK w hKw).split
    have hHk0 : H0.length = kids.length := hF0.1
    rw [hHk0] at hK ⊢
    clear hF0 hHk0 H0
    obtain ⟨l1, l2, l3, l4, l5⟩ := hf
    obtain ⟨H, hS1⟩ := rdH.ex (R := fun (H : List NdH) g => SlT H (.slice a4 kids.length m4) g ∧ FoR g kids H) (fun g hg => by
      obtain ⟨-, -, -, H, h4, hF⟩ := (hK g hg).parts
      exact ⟨H, h4, hF⟩) hS
    clear hS
    have hS := hS1
    clear hS1
    generalize hKE : (fun g => K g ∧ SlT H (.slice a4 kids.length m4) g ∧ FoR g kids H) = K1 at hS
    have hK1 : ∀ g, K1 g → K g ∧ SlT H (.slice a4 kids.length m4) g ∧ FoR g kids H := fun g hg => by rw [← hKE] at hg; exact hg
    have hK1s : Stays K1 := by
      rw [← hKE]
      exact stays_and hKs (fun g w hf hr => ⟨hr.1.frz hf, hr.2.frz hf⟩)
    have hHk : H.length = kids.length := (hK1 w (rdH.rd hK1s (hS.rd .here))).2.2.1
    have hi4 : ∀ w, (rdH K1).rd w → SlT H (.slice a4 kids.length m4) w := fun w h => (hK1 w (rdH.rd hK1s h)).2.1
    clear hKw hKE
    show Calls Tryz.prog 41 #[.agg #[.int .i64 k, .string tag, .string key, .string text, .slice a1 cl.length m1, .slice a2 al.length m2, .slice a3 sl.length m3, .int .i64 e, .int .i64 lv, .int .i64 m, .int .i64 d, .bool p, .bool q, .slice a4 kids.length m4]] w _
    by_cases hk1 : k = 1
    · rw [stl, if_pos hk1]
      refine enter Tryz.func41 rfl Tryz.ntmps41 rfl (fun a hk => ?_)
      (repeat' (first | (show wpListIn _ _ _ _ _ (_ :: _) _ _; first | (refine wx1 ?_; clear hk a; intro a hk) | (refine wx2 ?_ ?_ <;> (intro hp; clear hk a; intro a hk)) | (refine wx3 ?_; clear hk hS a; intro w b hS a hk) | (refine wx4 ?_; clear hk hS a; intro w hS a hk) | (refine wx5 ?_; clear hk hS a; intro w v hS a hk) | fail) | refine wx0 ?_ | (refine s_end hk ?_; clear hk a; intro a hk) | fail))
      refine done1R hk rfl (.str hS (hT := aT rfl) (hs := zT rfl)) (h := ?_)
      exact shH.of (h := (0, 1, ⟨#[]⟩, text, ⟨none, 0, 0⟩, ⟨none, 0, 0⟩, ⟨none, 0, 0⟩, ⟨none, 0, 0⟩)) (rdH.to (K := K1) (fun g hg => ⟨(hK1 g hg).1, .mk (SlT.nil (α := ByteArray) g) (SlT.nil (α := ByteArray × ByteArray) g) (SlT.nil (α := ByteArray × Int) g) (SlT.nil (α := SnH) g) rfl (fun i t h h1 _ => by simp at h1)⟩)
        (hS.sub (.cons (by repeat (first | exact At.here | apply At.there)) (by repeat (first | exact Sub.refl | apply Sub.under)))))
    · rw [stl, if_neg hk1]
      refine enter Tryz.func41 rfl Tryz.ntmps41 rfl (fun a hk => ?_)
      refine wpIn_seq ?_; refine wpIn_region_lit ?_
      refine st_box hk hS ?_; clear hk hS a; intro w b1 hS a hk
      refine st_alloc hk hS ?_; clear hk hS a; intro w b2 hS a hk
      (repeat' (first | (show wpListIn _ _ _ _ _ (_ :: _) _ _; first | (refine wx1 ?_; clear hk a; intro a hk) | (refine wx2 ?_ ?_ <;> (intro hp; clear hk a; intro a hk)) | (refine wx3 ?_; clear hk hS a; intro w b hS a hk) | (refine wx4 ?_; clear hk hS a; intro w hS a hk) | (refine wx5 ?_; clear hk hS a; intro w v hS a hk) | fail) | refine wx0 ?_ | (refine s_end hk ?_; clear hk a; intro a hk) | fail))
      rename Nat => b3
      have c4w := hi4 w (hS.rd (A := rdH K1) (by (repeat (first | exact At.here | apply At.there))))
      (repeat' (first | (show wpListIn _ _ _ _ _ (_ :: _) _ _; first | (refine wx1 ?_; clear hk a; intro a hk) | (refine wx2 ?_ ?_ <;> (intro hp; clear hk a; intro a hk)) | (refine wx3 ?_; clear hk hS a; intro w b hS a hk) | (refine wx4 ?_; clear hk hS a; intro w hS a hk) | (refine wx5 ?_; clear hk hS a; intro w v hS a hk) | fail) | refine wx0 ?_ | (refine s_end hk ?_; clear hk a; intro a hk) | fail))
      clear c4w
      replace hS := rdH.to (R := fun g => K1 g ∧ SoR g [] []) (fun g hg => ⟨hg, SoR.nil g⟩) (hS.nilT 48 SnH |>.sub (L' := rdH K1 :: OwT 48 ([] : List SnH) (.slice none 0 0) :: pts b3 [.int .i64 0, .int .i64 2, .string tag, .string ⟨#[]⟩, .slice a1 cl.length m1, .slice a2 al.length m2, .slice a3 sl.length m3, .slice none 0 0] 48 :: pts b2 [.int .i64 0, .int .i64 0, .string ⟨#[]⟩, .string ⟨#[]⟩, .slice none 0 0, .slice none 0 0, .slice none 0 0, .slice none 0 0] 48 :: L) (.cons (by repeat (first | exact At.here | apply At.there)) (.cons (by repeat (first | exact At.here | apply At.there)) (.cons (by repeat (first | exact At.here | apply At.there)) (.cons (by repeat (first | exact At.here | apply At.there)) (by repeat (first | exact Sub.refl | apply Sub.under)))))))
      replace hk := Kn.kp [2, 3, 22, 23, 24] hk
      refine wp_for kids.length (fun i _ => [(24, .int .i64 (i : Int))]) (fun i v => rdH (fun g => K1 g ∧ SoR g (stlL (kids.take i)) (v.2 : List SnH)) :: OwT 48 v.2 (.slice v.1.1 i v.1.2) :: pts b3 [.int .i64 0, .int .i64 2, .string tag, .string ⟨#[]⟩, .slice a1 cl.length m1, .slice a2 al.length m2, .slice a3 sl.length m3, .slice v.1.1 i v.1.2] 48 :: pts b2 [.int .i64 0, .int .i64 0, .string ⟨#[]⟩, .string ⟨#[]⟩, .slice none 0 0, .slice none 0 0, .slice none 0 0, .slice none 0 0] 48 :: L) (fun _ _ => True) (((none, 0), []) : (Option Addr × Nat) × List SnH) hk (by repeat (first | exact trivial | refine ⟨rfl, ?_⟩)) hS trivial ?_
      clear hk hS a
      rintro j ⟨⟨ak, ck⟩, H'⟩ a w hj hk hS -
      simp only at hS hk
      have hstay : Stays (fun g => K1 g ∧ SoR g (stlL (kids.take j)) H') := stays_and hK1s (SoR.stays _ _)
      have hKw := rdH.rd hstay (hS.rd .here)
      have hkl : (stlL (kids.take j)).length = j := by rw [stlL_map, List.length_map, List.length_take]; omega
      have hHl : H'.length = j := by rw [hKw.2.1, hkl]
      by_cases hjl : j < kids.length
      · obtain ⟨tk, htk⟩ : ∃ t, kids[j]? = some t := ⟨_, List.getElem?_eq_getElem hjl⟩
        obtain ⟨hd0, hx⟩ : ∃ x, H[j]? = some x := ⟨_, List.getElem?_eq_getElem (by omega)⟩
        have hfk := l5 tk (List.mem_of_getElem? htk)
        have hlt : SizeOf.sizeOf tk < n := by have := kid_lt (k := k) (tag := tag) (key := key) (text := text) (cl := cl) (at_ := al) (st := sl) (o := (e, lv, m, d, p, q)) (List.mem_of_getElem? htk); omega
        have hst : stlL (kids.take (j + 1)) = stlL (kids.take j) ++ [stl tk] := by rw [stlL_map, stlL_map, take_snoc htk, List.map_append]; rfl
        have c4'' := (hK1 w hKw.1).2.1
        generalize hK2 : (fun g => K1 g ∧ SoR g (stlL (kids.take j)) H') = K2 at hS hstay
        have hTk : ∀ g, K2 g → TrR g tk hd0 := fun g hg => by
          rw [← hK2] at hg
          exact (hK1 g hg.1).2.2.2 j tk hd0 htk hx
        obtain ⟨k', tag', key', text', ⟨x1, x2, x3⟩, ⟨y1, y2, y3⟩, ⟨z1, z2, z3⟩, ⟨e', lv', m', d', p', q'⟩, ⟨u1, u2, u3⟩⟩ := hd0
        (repeat' (first | (show wpListIn _ _ _ _ _ (_ :: _) _ _; first | (refine wx1 ?_; clear hk a; intro a hk) | (refine wx2 ?_ ?_ <;> (intro hp; clear hk a; intro a hk)) | (refine wx3 ?_; clear hk hS a; intro w b hS a hk) | (refine wx4 ?_; clear hk hS a; intro w hS a hk) | (refine wx5 ?_; clear hk hS a; intro w v hS a hk) | fail) | refine wx0 ?_ | (refine s_end hk ?_; clear hk a; intro a hk) | fail))
        rename Nat => b5
        replace hS := hS.sub (L' := rdH K2 :: pts b5 [.int .i64 k', .string tag', .string key', .string text', .slice x1 x2 x3, .slice y1 y2 y3, .slice z1 z2 z3, .int .i64 e', .int .i64 lv', .int .i64 m', .int .i64 d', .bool p', .bool q', .slice u1 u2 u3] 31 :: OwT 48 H' (.slice ak j ck) :: pts b3 [.int .i64 0, .int .i64 2, .string tag, .string ⟨#[]⟩, .slice a1 cl.length m1, .slice a2 al.length m2, .slice a3 sl.length m3, .slice ak j ck] 48 :: pts b2 [.int .i64 0, .int .i64 0, .string ⟨#[]⟩, .string ⟨#[]⟩, .slice none 0 0, .slice none 0 0, .slice none 0 0, .slice none 0 0] 48 :: L) (.cons (by repeat (first | exact At.here | apply At.there)) (.cons (by repeat (first | exact At.here | apply At.there)) (.cons (by repeat (first | exact At.here | apply At.there)) (.cons (by repeat (first | exact At.here | apply At.there)) (.cons (by repeat (first | exact At.here | apply At.there)) (by repeat (first | exact Sub.refl | apply Sub.under)))))))
        refine wp_drawnU1 5 mixed (by kernel_rfl) hk hS ?_; clear hk hS a
        (repeat' (first | (show ObxE _ _ _ _ _ _ _ _ _ (_ :: _) _ _ _; first | refine ox1 ?_ | (refine ox2 ?_ ?_ <;> intro hp) | fail) | fail))
        refine' obe_upd (rdH K2) (fun us a w X hk hd hS hL => ?_) ?_; rotate_left; focus (have hk := Kn.vw hk (by repeat (first | exact VW.nil | apply VW.val rfl | apply VW.base rfl rfl | apply VW.res rfl | apply VW.upd rfl | apply VW.cpy rfl | apply VW.dep rfl | apply VW.fn rfl | apply VW.lnd rfl | apply VW.tak rfl)); exact g_callO hk (hf := by kernel_rfl) (hc := ih tk (k', tag', key', text', ⟨x1, x2, x3⟩, ⟨y1, y2, y3⟩, ⟨z1, z2, z3⟩, (e', lv', m', d', p', q'), ⟨u1, u2, u3⟩) K2 _ X w hlt hfk hstay hTk hS) (h := fun _ _ h => h))
        refine' obe_dep 31 3 (V := fun u v => OwT 48 [snOf u] v) (fun us a w hk hd hS => ?_) ?_
        · have hk := Kn.vw hk (by repeat (first | exact VW.nil | apply VW.val rfl | apply VW.base rfl rfl | apply VW.res rfl | apply VW.upd rfl | apply VW.cpy rfl | apply VW.dep rfl | apply VW.fn rfl | apply VW.lnd rfl | apply VW.tak rfl))
          have hG : (shH K2 (stl tk) (us 3)).rd w := hd.1
          obtain ⟨⟨id2, k2, tag2, text2, ⟨x12, x22, x32⟩, ⟨y12, y22, y32⟩, ⟨z12, z22, z32⟩, ⟨u12, u22, u32⟩⟩, he⟩ := shH.rd hG
          show Gives _ _ _ _ (fun v w' => St w [OwT 48 [snOf (us 3)] v] w')
          simp only [Nat.zero_add, Nat.reduceAdd] at hk
          rw [he] at hk ⊢
          rw [snOf_snV]
          exact v_bsT (xs := [((id2, k2, tag2, text2, ⟨x12, x22, x32⟩, ⟨y12, y22, y32⟩, ⟨z12, z22, z32⟩, ⟨u12, u22, u32⟩) : SnH)]) (m := 0) hk (hT := eT rfl) (hE := zT rfl) (hz := oT rfl)
        refine obe_nil ⟨rfl, ?_⟩; intro us a w hk hS
        simp only [resE, List.cons_append, List.nil_append, Nat.zero_add, Nat.reduceAdd] at hS
        replace hk := Kn.kp [2, 3, 22, 23, 24, 29, 31, 32] hk
        simp only [HV.of, Nat.zero_add, Nat.reduceAdd] at hk
        generalize us 3 = v31 at hS hk
        generalize us 4 = v32 at hS hk
        obtain ⟨hd1, rfl, hS1⟩ := St.sh hS (.there .here)
        clear hS
        have hS := hS1
        clear hS1
        rw [snOf_snV] at hS
        (repeat' (first | (show wpListIn _ _ _ _ _ (_ :: _) _ _; first | (refine wx1 ?_; clear hk a; intro a hk) | (refine wx2 ?_ ?_ <;> (intro hp; clear hk a; intro a hk)) | (refine wx3 ?_; clear hk hS a; intro w b hS a hk) | (refine wx4 ?_; clear hk hS a; intro w hS a hk) | (refine wx5 ?_; clear hk hS a; intro w v hS a hk) | fail) | refine wx0 ?_ | (refine s_end hk ?_; clear hk a; intro a hk) | fail))
        have hl1 : (H' ++ [hd1]).length = j + 1 := by rw [List.length_append, hHl]; rfl
        rename Value => vn
        obtain ⟨aovn, cvn, hshp, _⟩ := (OwT.rd (hS.rd (A := OwT 48 _ vn) (by (repeat (first | exact At.here | apply At.there))))).shape; subst hshp
        rw [hl1] at hS hk
        (repeat' (first | (show wpListIn _ _ _ _ _ (_ :: _) _ _; first | (refine wx1 ?_; clear hk a; intro a hk) | (refine wx2 ?_ ?_ <;> (intro hp; clear hk a; intro a hk)) | (refine wx3 ?_; clear hk hS a; intro w b hS a hk) | (refine wx4 ?_; clear hk hS a; intro w hS a hk) | (refine wx5 ?_; clear hk hS a; intro w v hS a hk) | fail) | refine wx0 ?_ | (refine s_end hk ?_; clear hk a; intro a hk) | fail))
        refine ⟨hjl, ((aovn, cvn), H' ++ [hd1]), hk.sd, ?_, trivial⟩
        refine rdH.to (K := fun g => K2 g ∧ SrR g (stl tk) hd1) (fun g hg => ?_) (hS.sub (.cons (by repeat (first | exact At.here | apply At.there)) (.cons (by repeat (first | exact At.here | apply At.there)) (.cons (by repeat (first | exact At.here | apply At.there)) (.cons (by repeat (first | exact At.here | apply At.there)) (by repeat (first | exact Sub.refl | apply Sub.under)))))))
        obtain ⟨hg1, hg2⟩ := hg
        rw [← hK2] at hg1
        rw [hst]
        exact ⟨hg1.1, hg1.2.snoc hg2⟩
      · have hjj : j = kids.length := by omega
        subst hjj
        rw [List.take_length] at hS
        (repeat' (first | (show wpListIn _ _ _ _ _ (_ :: _) _ _; first | (refine wx1 ?_; clear hk a; intro a hk) | (refine wx2 ?_ ?_ <;> (intro hp; clear hk a; intro a hk)) | (refine wx3 ?_; clear hk hS a; intro w b hS a hk) | (refine wx4 ?_; clear hk hS a; intro w hS a hk) | (refine wx5 ?_; clear hk hS a; intro w v hS a hk) | fail) | refine wx0 ?_ | (refine s_end hk ?_; clear hk a; intro a hk) | fail))
        refine done1R hk rfl (.str hS (hT := aT rfl) (hs := zT rfl)) (h := ?_)
        refine shH.of (h := (0, 2, tag, ⟨#[]⟩, ⟨a1, cl.length, m1⟩, ⟨a2, al.length, m2⟩, ⟨a3, sl.length, m3⟩, ⟨ak, kids.length, ck⟩)) ?_
        refine rdH.of (L1 := [rdH (fun g => K1 g ∧ SoR g (stlL kids) H'), OwT 48 H' (.slice ak kids.length ck)]) (hS.sub (.cons (by repeat (first | exact At.here | apply At.there)) (.cons (by repeat (first | exact At.here | apply At.there)) (by repeat (first | exact Sub.refl | apply Sub.under))))) fun g hg => ?_
        have hg1 : K1 g ∧ SoR g (stlL kids) H' := rdH.rd (stays_and hK1s (SoR.stays _ _)) (hg _ (by simp))
        have hg2 := hK1 g hg1.1
        obtain ⟨c1, c2, c3, -⟩ := (hK g hg2.1).parts
        exact ⟨hg2.1, .mk c1 c2 c3 (OwT.rd (hg (OwT 48 H' (.slice ak kids.length ck)) (by simp))) hg1.2.1 hg1.2.2⟩
theorem rOf9_any (t : Tree) (h : NdH) (w0 : World) (hf : Fit 1000000 t) (hfn : Fits (nrm t)) (hr : TrR w0 t h) : Calls Tryz.prog 13 #[ndV h] w0 (Ret fun v w => St w0 [streeH (stl (nrm t)) v] w) := by
  have hr0 := hr
  obtain ⟨k, tag, key, text, cl, al, sl, e, lv, m, d, p, q, kids, a1, m1, a2, m2, a3, m3, a4, m4, H, he0, rfl, c1, c2, c3, c4, hF⟩ := hr.split
  clear he0
  show Calls Tryz.prog 13 #[.agg #[.int .i64 k, .string tag, .string key, .string text, .slice a1 cl.length m1, .slice a2 al.length m2, .slice a3 sl.length m3, .int .i64 e, .int .i64 lv, .int .i64 m, .int .i64 d, .bool p, .bool q, .slice a4 H.length m4]] w0 _
  refine enter Tryz.func13 rfl Tryz.ntmps13 rfl (fun a hk => ?_); have hS := St.refl w0
  (repeat' (first | (show wpListIn _ _ _ _ _ (_ :: _) _ _; first | (refine wx1 ?_; clear hk a; intro a hk) | (refine wx2 ?_ ?_ <;> (intro hp; clear hk a; intro a hk)) | (refine wx3 ?_; clear hk hS a; intro w b hS a hk) | (refine wx4 ?_; clear hk hS a; intro w hS a hk) | (refine wx5 ?_; clear hk hS a; intro w v hS a hk) | fail) | refine wx0 ?_ | (refine s_end hk ?_; clear hk a; intro a hk) | fail))
  refine sg hk (g_callO hk (hf := by kernel_rfl) (hc := rnormal_any 1000000 (by omega) (SizeOf.sizeOf t + 1) t (k, tag, key, text, ⟨a1, cl.length, m1⟩, ⟨a2, al.length, m2⟩, ⟨a3, sl.length, m3⟩, (e, lv, m, d, p, q), ⟨a4, H.length, m4⟩) _ (by omega) hf (hS.rdTr hr0)) (h := ?_)); clear hk a; rintro vn w hS1 a hk; replace hS := hS.call hS1; clear hS1
  rw [List.cons_append, List.nil_append] at hS
  obtain ⟨hd1, rfl, hS1⟩ := St.tree hS .here
  clear hS
  have hS := hS1
  clear hS1
  refine sg hk (g_callO hk (hf := by kernel_rfl) (hc := rof9_any (SizeOf.sizeOf (nrm t) + 1) (nrm t) hd1 (fun w => TrR w (nrm t) hd1) _ _ _ (by omega) hfn (TrR.stays _ _) (fun g h => h) hS) (h := ?_)); clear hk hS a; intro vr w hS a hk
  obtain ⟨hd2, rfl, hS1⟩ := St.sh hS .here
  clear hS
  have hS := hS1
  clear hS1
  obtain ⟨id2, k2, tag2, text2, ⟨x12, x22, x32⟩, ⟨y12, y22, y32⟩, ⟨z12, z22, z32⟩, ⟨u12, u22, u32⟩⟩ := hd2
  (repeat' (first | (show wpListIn _ _ _ _ _ (_ :: _) _ _; first | (refine wx1 ?_; clear hk a; intro a hk) | (refine wx2 ?_ ?_ <;> (intro hp; clear hk a; intro a hk)) | (refine wx3 ?_; clear hk hS a; intro w b hS a hk) | (refine wx4 ?_; clear hk hS a; intro w hS a hk) | (refine wx5 ?_; clear hk hS a; intro w v hS a hk) | fail) | refine wx0 ?_ | (refine s_end hk ?_; clear hk a; intro a hk) | fail))
  refine done1R hk rfl (.str hS (hT := aT rfl) (hs := zT rfl)) (h := ?_)
  exact streeH.of (h := (id2, k2, tag2, text2, ⟨x12, x22, x32⟩, ⟨y12, y22, y32⟩, ⟨z12, z22, z32⟩, ⟨u12, u22, u32⟩)) (rdH.to (K := fun g => TrR g (nrm t) hd1 ∧ SrR g (stl (nrm t)) (id2, k2, tag2, text2, ⟨x12, x22, x32⟩, ⟨y12, y22, y32⟩, ⟨z12, z22, z32⟩, ⟨u12, u22, u32⟩)) (fun g hg => hg.2) (hS.sub (.cons (by repeat (first | exact At.here | apply At.there)) Sub.nil)))
end Go.Proofs.YtkcjkbnbblpomaaGreatDoor
