/- Layer 9: the laws: without what is reserved. Layer 9: StillErases from the form's reading. Layer 2: what the program says of texts. -/
import Derived.Test.YtkcjkbnbblpomaaGreatDoorS23
import Derived.Test.YtkcjkbnbblpomaaGreatDoorS32
import Derived.Test.YtkcjkbnbblpomaaGreatDoorS33
import Derived.Test.YtkcjkbnbblpomaaGreatDoorS24
import Derived.Test.YtkcjkbnbblpomaaGreatDoorS26
import Derived.Test.YtkcjkbnbblpomaaGreatDoorS27
import Derived.Test.YtkcjkbnbblpomaaGreatDoorS20
set_option linter.all false
namespace Go.Proofs.YtkcjkbnbblpomaaGreatDoor
open Go.RowKit
set_option maxRecDepth 100000
attribute [local irreducible] Go.Code.wpIn Go.wpListIn Go.Calls Gives Go.Exit.then Go.Exit.inBlock Done ObxE

theorem zTr_cells {w : World} {i k : Int} {t x : ByteArray} {ha hb hc hk : Hd} (h : SrR w zTr (i, k, t, x, ha, hb, hc, hk)) : k = 0 ∧ hk.n = 0 ∧ SlT ([] : List SnH) hk.v w := by
  cases h with
  | mk h1 h2 h3 h4 hl hr =>
    obtain ⟨a4, m4, e⟩ := h4.hd
    subst e
    have := List.eq_nil_of_length_eq_zero hl
    subst this
    exact ⟨rfl, rfl, h4⟩
set_option maxHeartbeats 8000000 in
theorem stillerases_any (F0 : List FlH) (v0 : Value) (w0 : World) (hv0 : SlT F0 v0 w0) (hR0 : ∀ h ∈ F0, FlR w0 h) (ht : TabW w0) : Calls Tryz.prog 5 #[v0] w0 (Ret fun v w => v = .bool true ∧ St w0 [] w) := by
  refine enter Tryz.func5 rfl Tryz.ntmps5 rfl (fun a hk => ?_); have hS := St.refl w0
  (repeat' (first | (show wpListIn _ _ _ _ _ (_ :: _) _ _; first | (refine wx1 ?_; clear hk a; intro a hk) | (refine wx2 ?_ ?_ <;> (intro hp; clear hk a; intro a hk)) | (refine wx3 ?_; clear hk hS a; intro w b hS a hk) | (refine wx4 ?_; clear hk hS a; intro w hS a hk) | (refine wx5 ?_; clear hk hS a; intro w v hS a hk) | fail) | refine wx0 ?_ | (refine s_end hk ?_; clear hk a; intro a hk) | fail))
  refine sg hk (g_callO hk (hf := by kernel_rfl) (hc := awake09_any _ (ht.mono hS.below)) (h := ?_)); clear hk a; rintro _ w ⟨rfl, hS1⟩ a hk; replace hS := hS.call0 hS1; clear hS1
  (repeat' (first | (show wpListIn _ _ _ _ _ (_ :: _) _ _; first | (refine wx1 ?_; clear hk a; intro a hk) | (refine wx2 ?_ ?_ <;> (intro hp; clear hk a; intro a hk)) | (refine wx3 ?_; clear hk hS a; intro w b hS a hk) | (refine wx4 ?_; clear hk hS a; intro w hS a hk) | (refine wx5 ?_; clear hk hS a; intro w v hS a hk) | fail) | refine wx0 ?_ | (refine s_end hk ?_; clear hk a; intro a hk) | fail))
  have hw0 : Frz w0 w0 := Frz.refl _
  have hv0' := hv0
  refine sg hk (g_callO hk (hf := by kernel_rfl) (hc := tree07_any F0 v0 25 (by omega) (by omega) _ (hS.rdT hv0') (fun h hh => (hR0 h hh).frz (hw0.trans hS.frz))) (h := ?_)); clear hk a; rintro vr w ⟨t0, hs0, hc0, hS1⟩ a hk; replace hS := hS.call hS1; clear hS1
  rw [List.cons_append] at hS
  obtain ⟨hd0, rfl, hS1⟩ := St.tree hS .here
  clear hS
  have hS := hS1
  clear hS1
  have hf0 := (hs0.fit (by omega)).fits
  refine sg hk (g_callO hk (hf := by kernel_rfl) (hc := from9_any (SizeOf.sizeOf t0 + 1) t0 hd0 1 _ (by omega) hf0 (by omega) (by omega) (hS.trR .here)) (h := ?_)); clear hk a; rintro vr w ⟨⟨pi, pk, pt, px, ⟨pa1, pa2, pa3⟩, ⟨pb1, pb2, pb3⟩, ⟨pc1, pc2, pc3⟩, ⟨pd1, pd2, pd3⟩⟩, rfl, hS1⟩ a hk; replace hS := hS.call hS1; clear hS1
  rw [List.cons_append, List.nil_append] at hS
  have hsf : SFits (frm t0 1) := frm_sfits hf0
  have hris : SRis (frm t0 1) := frm_sris t0 1
  have hpc : (preT (frm t0 1)).length = cnt t0 := frm_pre t0 1
  generalize hTT : frm t0 1 = T at *
  have hef := erT_fits hsf
  have hep := erT_pre T
  have hee := er_er T
  have heg := erT_ghost T
  (repeat' (first | (show wpListIn _ _ _ _ _ (_ :: _) _ _; first | (refine wx1 ?_; clear hk a; intro a hk) | (refine wx2 ?_ ?_ <;> (intro hp; clear hk a; intro a hk)) | (refine wx3 ?_; clear hk hS a; intro w b hS a hk) | (refine wx4 ?_; clear hk hS a; intro w hS a hk) | (refine wx5 ?_; clear hk hS a; intro w v hS a hk) | fail) | refine wx0 ?_ | (refine s_end hk ?_; clear hk a; intro a hk) | fail))
  obtain ⟨g1, hxg1, hrg1, hS1⟩ := hS.freeze (A := streeR T (pi, pk, pt, px, ⟨pa1, pa2, pa3⟩, ⟨pb1, pb2, pb3⟩, ⟨pc1, pc2, pc3⟩, ⟨pd1, pd2, pd3⟩)) (by (repeat (first | exact At.here | apply At.there)))
  clear hS
  have hS := hS1
  clear hS1
  have hxg1 : Frz w0 g1 := hxg1.1
  have hT1 : SrR g1 T (pi, pk, pt, px, ⟨pa1, pa2, pa3⟩, ⟨pb1, pb2, pb3⟩, ⟨pc1, pc2, pc3⟩, ⟨pd1, pd2, pd3⟩) := rdH.rd (SrR.stays _ _) hrg1
  replace hS : St ⟨g1, w0⟩ _ w := hS
  refine sg hk (g_callO hk (hf := by kernel_rfl) (hc := told9_any (SizeOf.sizeOf T + 1) T (pi, pk, pt, px, ⟨pa1, pa2, pa3⟩, ⟨pb1, pb2, pb3⟩, ⟨pc1, pc2, pc3⟩, ⟨pd1, pd2, pd3⟩) _ (by omega) hsf (hS.rdSr hT1)) (h := ?_)); clear hk a; rintro vn w hS1 a hk; replace hS := hS.call hS1; clear hS1
  rw [List.cons_append, List.nil_append] at hS
  obtain ⟨hd2, rfl, hS1⟩ := St.stree hS .here
  clear hS
  have hS := hS1
  clear hS1
  obtain ⟨qi, qk, qt, qx, ⟨qa1, qa2, qa3⟩, ⟨qb1, qb2, qb3⟩, ⟨qc1, qc2, qc3⟩, ⟨qd1, qd2, qd3⟩⟩ := hd2
  (repeat' (first | (show wpListIn _ _ _ _ _ (_ :: _) _ _; first | (refine wx1 ?_; clear hk a; intro a hk) | (refine wx2 ?_ ?_ <;> (intro hp; clear hk a; intro a hk)) | (refine wx3 ?_; clear hk hS a; intro w b hS a hk) | (refine wx4 ?_; clear hk hS a; intro w hS a hk) | (refine wx5 ?_; clear hk hS a; intro w v hS a hk) | fail) | refine wx0 ?_ | (refine s_end hk ?_; clear hk a; intro a hk) | fail))
  obtain ⟨g2, hxg2, hrg2, hS1⟩ := hS.freeze (A := streeR T (qi, qk, qt, qx, ⟨qa1, qa2, qa3⟩, ⟨qb1, qb2, qb3⟩, ⟨qc1, qc2, qc3⟩, ⟨qd1, qd2, qd3⟩)) (by (repeat (first | exact At.here | apply At.there)))
  clear hS
  have hS := hS1
  clear hS1
  have hxg2 : Frz g1 g2 := hxg2.1
  have hX2 : SrR g2 T (qi, qk, qt, qx, ⟨qa1, qa2, qa3⟩, ⟨qb1, qb2, qb3⟩, ⟨qc1, qc2, qc3⟩, ⟨qd1, qd2, qd3⟩) := rdH.rd (SrR.stays _ _) hrg2
  have hT2 := hT1.frz hxg2
  replace hS : St ⟨g2, w0⟩ _ w := hS
  refine sg hk (g_callO hk (hf := by kernel_rfl) (hc := erase9_any (SizeOf.sizeOf T + 1) T (pi, pk, pt, px, ⟨pa1, pa2, pa3⟩, ⟨pb1, pb2, pb3⟩, ⟨pc1, pc2, pc3⟩, ⟨pd1, pd2, pd3⟩) _ (by omega) hsf (hS.rdSr hT2)) (h := ?_)); clear hk a; rintro vr w ⟨⟨ri, rk, rt, rx, ⟨ra1, ra2, ra3⟩, ⟨rb1, rb2, rb3⟩, ⟨rc1, rc2, rc3⟩, ⟨rd1, rd2, rd3⟩⟩, rfl, hS1⟩ a hk; replace hS := hS.call hS1; clear hS1
  rw [List.cons_append, List.nil_append] at hS
  have hgh := fun w0 h1 => ghost9_any T (qi, qk, qt, qx, ⟨qa1, qa2, qa3⟩, ⟨qb1, qb2, qb3⟩, ⟨qc1, qc2, qc3⟩, ⟨qd1, qd2, qd3⟩) w0 hsf h1
  unfold erO at hS
  generalize hgT : T.ghost = gT at *
  cases gT with
  | true =>
    rw [if_pos rfl] at hS
    obtain ⟨g3, hxg3, hrg3, hS1⟩ := hS.freeze (A := streeR zTr (ri, rk, rt, rx, ⟨ra1, ra2, ra3⟩, ⟨rb1, rb2, rb3⟩, ⟨rc1, rc2, rc3⟩, ⟨rd1, rd2, rd3⟩)) (by (repeat (first | exact At.here | apply At.there)))
    clear hS
    have hS := hS1
    clear hS1
    have hxg3 : Frz g2 g3 := hxg3.1
    have hz3 : SrR g3 zTr (ri, rk, rt, rx, ⟨ra1, ra2, ra3⟩, ⟨rb1, rb2, rb3⟩, ⟨rc1, rc2, rc3⟩, ⟨rd1, rd2, rd3⟩) := rdH.rd (SrR.stays _ _) hrg3
    have hX3 := hX2.frz hxg3
    replace hS : St ⟨g3, w0⟩ _ w := hS
    obtain ⟨hk0, hk1, hk2⟩ := zTr_cells hz3
    simp only at hk1
    subst hk0 hk1
    (repeat' (first | (show wpListIn _ _ _ _ _ (_ :: _) _ _; first | (refine wx1 ?_; clear hk a; intro a hk) | (refine wx2 ?_ ?_ <;> (intro hp; clear hk a; intro a hk)) | (refine wx3 ?_; clear hk hS a; intro w b hS a hk) | (refine wx4 ?_; clear hk hS a; intro w hS a hk) | (refine wx5 ?_; clear hk hS a; intro w v hS a hk) | fail) | refine wx0 ?_ | (refine s_end hk ?_; clear hk a; intro a hk) | fail))
    refine sg hk (g_callO hk (hf := by kernel_rfl) (hc := hgh _ (hS.rdSr hX3)) (h := ?_)); clear hk a; rintro _ w ⟨rfl, hS1⟩ a hk; replace hS := hS.call0 hS1; clear hS1
    have hv1 := hS.rdT hk2
    simp only [Hd.v] at hv1
    (repeat' (first | (show wpListIn _ _ _ _ _ (_ :: _) _ _; first | (refine wx1 ?_; clear hk a; intro a hk) | (refine wx2 ?_ ?_ <;> (intro hp; clear hk a; intro a hk)) | (refine wx3 ?_; clear hk hS a; intro w b hS a hk) | (refine wx4 ?_; clear hk hS a; intro w hS a hk) | (refine wx5 ?_; clear hk hS a; intro w v hS a hk) | fail) | refine wx0 ?_ | (refine s_end hk ?_; clear hk a; intro a hk) | fail))
    exact done1 hk (h := ⟨rfl, hS.flat⟩)
  | false =>
    rw [if_neg (by decide)] at hS
    (repeat' (first | (show wpListIn _ _ _ _ _ (_ :: _) _ _; first | (refine wx1 ?_; clear hk a; intro a hk) | (refine wx2 ?_ ?_ <;> (intro hp; clear hk a; intro a hk)) | (refine wx3 ?_; clear hk hS a; intro w b hS a hk) | (refine wx4 ?_; clear hk hS a; intro w hS a hk) | (refine wx5 ?_; clear hk hS a; intro w v hS a hk) | fail) | refine wx0 ?_ | (refine s_end hk ?_; clear hk a; intro a hk) | fail))
    refine sg hk (g_callO hk (hf := by kernel_rfl) (hc := hgh _ (hS.rdSr hX2)) (h := ?_)); clear hk a; rintro _ w ⟨rfl, hS1⟩ a hk; replace hS := hS.call0 hS1; clear hS1
    (repeat' (first | (show wpListIn _ _ _ _ _ (_ :: _) _ _; first | (refine wx1 ?_; clear hk a; intro a hk) | (refine wx2 ?_ ?_ <;> (intro hp; clear hk a; intro a hk)) | (refine wx3 ?_; clear hk hS a; intro w b hS a hk) | (refine wx4 ?_; clear hk hS a; intro w hS a hk) | (refine wx5 ?_; clear hk hS a; intro w v hS a hk) | fail) | refine wx0 ?_ | (refine s_end hk ?_; clear hk a; intro a hk) | fail))
    obtain ⟨g3, hxg3, hrg3, hS1⟩ := hS.freeze (A := streeR (erT T) (ri, rk, rt, rx, ⟨ra1, ra2, ra3⟩, ⟨rb1, rb2, rb3⟩, ⟨rc1, rc2, rc3⟩, ⟨rd1, rd2, rd3⟩)) (by (repeat (first | exact At.here | apply At.there)))
    clear hS
    have hS := hS1
    clear hS1
    have hxg3 : Frz g2 g3 := hxg3.1
    have hU3 : SrR g3 (erT T) (ri, rk, rt, rx, ⟨ra1, ra2, ra3⟩, ⟨rb1, rb2, rb3⟩, ⟨rc1, rc2, rc3⟩, ⟨rd1, rd2, rd3⟩) := rdH.rd (SrR.stays _ _) hrg3
    have hX3 := hX2.frz hxg3
    replace hS : St ⟨g3, w0⟩ _ w := hS
    refine sg hk (g_callO hk (hf := by kernel_rfl) (hc := erase9_any (SizeOf.sizeOf (erT T) + 1) (erT T) (ri, rk, rt, rx, ⟨ra1, ra2, ra3⟩, ⟨rb1, rb2, rb3⟩, ⟨rc1, rc2, rc3⟩, ⟨rd1, rd2, rd3⟩) _ (by omega) hef (hS.rdSr hU3)) (h := ?_)); clear hk a; rintro vr w ⟨⟨yi, yk, yt, yx, ⟨ya1, ya2, ya3⟩, ⟨yb1, yb2, yb3⟩, ⟨yc1, yc2, yc3⟩, ⟨yd1, yd2, yd3⟩⟩, rfl, hS1⟩ a hk; replace hS := hS.call hS1; clear hS1
    rw [List.cons_append, List.nil_append] at hS
    unfold erO at hS
    rw [heg, if_neg (by decide), hee] at hS
    rw [heg] at hk
    (repeat' (first | (show wpListIn _ _ _ _ _ (_ :: _) _ _; first | (refine wx1 ?_; clear hk a; intro a hk) | (refine wx2 ?_ ?_ <;> (intro hp; clear hk a; intro a hk)) | (refine wx3 ?_; clear hk hS a; intro w b hS a hk) | (refine wx4 ?_; clear hk hS a; intro w hS a hk) | (refine wx5 ?_; clear hk hS a; intro w v hS a hk) | fail) | refine wx0 ?_ | (refine s_end hk ?_; clear hk a; intro a hk) | fail))
    obtain ⟨g4, hxg4, hrg4, hS1⟩ := hS.freeze (A := streeR (erT T) (yi, yk, yt, yx, ⟨ya1, ya2, ya3⟩, ⟨yb1, yb2, yb3⟩, ⟨yc1, yc2, yc3⟩, ⟨yd1, yd2, yd3⟩)) (by (repeat (first | exact At.here | apply At.there)))
    clear hS
    have hS := hS1
    clear hS1
    have hxg4 : Frz g3 g4 := hxg4.1
    have hV4 : SrR g4 (erT T) (yi, yk, yt, yx, ⟨ya1, ya2, ya3⟩, ⟨yb1, yb2, yb3⟩, ⟨yc1, yc2, yc3⟩, ⟨yd1, yd2, yd3⟩) := rdH.rd (SrR.stays _ _) hrg4
    have hU4 := hU3.frz hxg4
    have hX4 := hX3.frz hxg4
    replace hS : St ⟨g4, w0⟩ _ w := hS
    have hisU := fun w0 hx h1 h2 => is9_any (erT T) (erT T) (ri, rk, rt, rx, ⟨ra1, ra2, ra3⟩, ⟨rb1, rb2, rb3⟩, ⟨rc1, rc2, rc3⟩, ⟨rd1, rd2, rd3⟩) hx w0 hef hef (by omega) (by omega) h1 h2
    have hisV := fun w0 hx h1 h2 => is9_any (erT T) (erT T) (yi, yk, yt, yx, ⟨ya1, ya2, ya3⟩, ⟨yb1, yb2, yb3⟩, ⟨yc1, yc2, yc3⟩, ⟨yd1, yd2, yd3⟩) hx w0 hef hef (by omega) (by omega) h1 h2
    rw [eqS_self, decide_eq_true rfl] at hisU hisV
    refine wp_drawn 16 mixed (by kernel_rfl) hk hS ?_; clear hk hS a
    (repeat' (first | (show ObxE _ _ _ _ _ _ _ _ _ (_ :: _) _ _ _; first | refine ox1 ?_ | (refine ox2 ?_ ?_ <;> intro hp) | fail) | fail))
    refine' obe_res (fun us a w hk hd hS => ?_) ?_; rotate_left; focus (have hk := Kn.vw hk (by repeat (first | exact VW.nil | apply VW.val rfl | apply VW.base rfl rfl | apply VW.res rfl | apply VW.upd rfl | apply VW.cpy rfl | apply VW.dep rfl | apply VW.fn rfl | apply VW.lnd rfl | apply VW.tak rfl)); exact g_callO hk (hf := by kernel_rfl) (hc := rerase9_any (SizeOf.sizeOf T + 1) T (qi, qk, qt, qx, ⟨qa1, qa2, qa3⟩, ⟨qb1, qb2, qb3⟩, ⟨qc1, qc2, qc3⟩, ⟨qd1, qd2, qd3⟩) _ (by omega) hsf hris (hS.rdSr hX4)) (h := fun _ _ h => h))
    refine' obe_val (fun us a w hk hd hS => ?_) ?_; rotate_left; focus (have hk := Kn.vw hk (by repeat (first | exact VW.nil | apply VW.val rfl | apply VW.base rfl rfl | apply VW.res rfl | apply VW.upd rfl | apply VW.cpy rfl | apply VW.dep rfl | apply VW.fn rfl | apply VW.lnd rfl | apply VW.tak rfl)); obtain ⟨hx, ex, hrx⟩ := streeH.rd hd.2.1; simp only [Nat.zero_add, Nat.reduceAdd] at hk ex; rw [ex] at hk; exact g_callO hk (hf := by kernel_rfl) (hc := hisU _ hx (hS.rdSr hU4) hrx) (h := fun _ _ h => h))
    (repeat' (first | (show ObxE _ _ _ _ _ _ _ _ _ (_ :: _) _ _ _; first | refine ox1 ?_ | (refine ox2 ?_ ?_ <;> intro hp) | fail) | fail))
    refine' obe_res (fun us a w hk hd hS => ?_) ?_; rotate_left; focus (have hk := Kn.vw hk (by repeat (first | exact VW.nil | apply VW.val rfl | apply VW.base rfl rfl | apply VW.res rfl | apply VW.upd rfl | apply VW.cpy rfl | apply VW.dep rfl | apply VW.fn rfl | apply VW.lnd rfl | apply VW.tak rfl)); exact g_callO hk (hf := by kernel_rfl) (hc := rerase9_any (SizeOf.sizeOf T + 1) T (qi, qk, qt, qx, ⟨qa1, qa2, qa3⟩, ⟨qb1, qb2, qb3⟩, ⟨qc1, qc2, qc3⟩, ⟨qd1, qd2, qd3⟩) _ (by omega) hsf hris (hS.rdSr hX4)) (h := fun _ _ h => h))
    refine' obe_val (fun us a w hk hd hS => ?_) ?_; rotate_left; focus (have hk := Kn.vw hk (by repeat (first | exact VW.nil | apply VW.val rfl | apply VW.base rfl rfl | apply VW.res rfl | apply VW.upd rfl | apply VW.cpy rfl | apply VW.dep rfl | apply VW.fn rfl | apply VW.lnd rfl | apply VW.tak rfl)); obtain ⟨hx, ex, hrx⟩ := streeH.rd hd.2.1; simp only [Nat.zero_add, Nat.reduceAdd] at hk ex; rw [ex] at hk; exact g_callO hk (hf := by kernel_rfl) (hc := hisV _ hx (hS.rdSr hV4) hrx) (h := fun _ _ h => h))
    (repeat' (first | (show ObxE _ _ _ _ _ _ _ _ _ (_ :: _) _ _ _; first | refine ox1 ?_ | (refine ox2 ?_ ?_ <;> intro hp) | fail) | fail))
    refine obe_nil ⟨rfl, ?_⟩; intro us a w hk hS
    (repeat' (first | (show wpListIn _ _ _ _ _ (_ :: _) _ _; first | (refine wx1 ?_; clear hk a; intro a hk) | (refine wx2 ?_ ?_ <;> (intro hp; clear hk a; intro a hk)) | (refine wx3 ?_; clear hk hS a; intro w b hS a hk) | (refine wx4 ?_; clear hk hS a; intro w hS a hk) | (refine wx5 ?_; clear hk hS a; intro w v hS a hk) | fail) | refine wx0 ?_ | (refine s_end hk ?_; clear hk a; intro a hk) | fail))
    exact done1 hk (h := ⟨rfl, hS.flat⟩)
end Go.Proofs.YtkcjkbnbblpomaaGreatDoor
namespace Go.Proofs.YtkcjkbnbblpomaaGreatDoor
open Go.RowKit
set_option maxRecDepth 100000
attribute [local irreducible] Go.Code.wpIn Go.wpListIn Go.Calls Gives Go.Exit.then Go.Exit.inBlock Done ObxE

theorem laid_StillErases {W : World} (hL : laidMetH Tryz.prog Rows.stillErasesRow.laid W) : TabW W := by
  rw [MakeChecks.laidMetH_plain _ _ _ (by kernel_rfl)] at hL
  exact laid9 rfl hL
theorem walk_StillErases (W : World) (vs : List Value) (hL : laidMetH Tryz.prog Rows.stillErasesRow.laid W) (h : Args Tryz.prog W [22] vs) : Calls Tryz.prog 5 vs.toArray W (Ret fun v w => v = .bool true ∧ St W [] w) := by
  obtain ⟨v, rfl, ha⟩ := args1 h
  obtain ⟨F, hv, hR⟩ := arg_flats ha
  exact stillerases_any F v W hv hR (laid_StillErases hL)
end Go.Proofs.YtkcjkbnbblpomaaGreatDoor
namespace Go.Proofs.YtkcjkbnbblpomaaGreatDoor
open Go.RowKit
set_option maxRecDepth 100000
attribute [local irreducible] Go.Code.wpIn Go.wpListIn Go.Calls Gives Go.Exit.then Go.Exit.inBlock Done ObxE

theorem letter_any (b : UInt8) (w0 : World) : Calls Tryz.prog 168 #[.int .u8 (b.toNat : Nat)] w0 (Ret fun v w => v = .bool (letB b) ∧ St w0 [] w) := by
  refine enter Tryz.func168 rfl Tryz.ntmps168 rfl (fun a hk => ?_); have hS := St.refl w0
  (repeat' (first | (show wpListIn _ _ _ _ _ (_ :: _) _ _; first | (refine wx1 ?_; clear hk a; intro a hk) | (refine wx2 ?_ ?_ <;> (intro hp; clear hk a; intro a hk)) | (refine wx3 ?_; clear hk hS a; intro w b hS a hk) | (refine wx4 ?_; clear hk hS a; intro w hS a hk) | (refine wx5 ?_; clear hk hS a; intro w v hS a hk) | fail) | refine wx0 ?_ | (refine s_end hk ?_; clear hk a; intro a hk) | fail))
  all_goals exact done1 hk (h := ⟨by unfold letB; first | rw [decide_eq_true (by omega)] | rw [decide_eq_false (by omega)], hS.nil⟩)
theorem digit_any (b : UInt8) (w0 : World) : Calls Tryz.prog 217 #[.int .u8 (b.toNat : Nat)] w0 (Ret fun v w => v = .bool (digB b) ∧ St w0 [] w) := by
  refine enter Tryz.func217 rfl Tryz.ntmps217 rfl (fun a hk => ?_); have hS := St.refl w0
  (repeat' (first | (show wpListIn _ _ _ _ _ (_ :: _) _ _; first | (refine wx1 ?_; clear hk a; intro a hk) | (refine wx2 ?_ ?_ <;> (intro hp; clear hk a; intro a hk)) | (refine wx3 ?_; clear hk hS a; intro w b hS a hk) | (refine wx4 ?_; clear hk hS a; intro w hS a hk) | (refine wx5 ?_; clear hk hS a; intro w v hS a hk) | fail) | refine wx0 ?_ | (refine s_end hk ?_; clear hk a; intro a hk) | fail))
  all_goals exact done1 hk (h := ⟨by unfold digB; first | rw [decide_eq_true (by omega)] | rw [decide_eq_false (by omega)], hS.nil⟩)
theorem visible_any (b : UInt8) (w0 : World) : Calls Tryz.prog 218 #[.int .u8 (b.toNat : Nat)] w0 (Ret fun v w => v = .bool (visB b) ∧ St w0 [] w) := by
  refine enter Tryz.func218 rfl Tryz.ntmps218 rfl (fun a hk => ?_); have hS := St.refl w0
  (repeat' (first | (show wpListIn _ _ _ _ _ (_ :: _) _ _; first | (refine wx1 ?_; clear hk a; intro a hk) | (refine wx2 ?_ ?_ <;> (intro hp; clear hk a; intro a hk)) | (refine wx3 ?_; clear hk hS a; intro w b hS a hk) | (refine wx4 ?_; clear hk hS a; intro w hS a hk) | (refine wx5 ?_; clear hk hS a; intro w v hS a hk) | fail) | refine wx0 ?_ | (refine s_end hk ?_; clear hk a; intro a hk) | fail))
  all_goals exact done1 hk (h := ⟨by unfold visB; first | rw [decide_eq_true (by omega)] | rw [decide_eq_false (by omega)], hS.nil⟩)
theorem printed_any (b : UInt8) (w0 : World) : Calls Tryz.prog 198 #[.int .u8 (b.toNat : Nat)] w0 (Ret fun v w => v = .bool (priB b) ∧ St w0 [] w) := by
  refine enter Tryz.func198 rfl Tryz.ntmps198 rfl (fun a hk => ?_); have hS := St.refl w0
  (repeat' (first | (show wpListIn _ _ _ _ _ (_ :: _) _ _; first | (refine wx1 ?_; clear hk a; intro a hk) | (refine wx2 ?_ ?_ <;> (intro hp; clear hk a; intro a hk)) | (refine wx3 ?_; clear hk hS a; intro w b hS a hk) | (refine wx4 ?_; clear hk hS a; intro w hS a hk) | (refine wx5 ?_; clear hk hS a; intro w v hS a hk) | fail) | refine wx0 ?_ | (refine s_end hk ?_; clear hk a; intro a hk) | fail))
  all_goals exact done1 hk (h := ⟨by unfold priB; first | rw [decide_eq_true (by omega)] | rw [decide_eq_false (by omega)], hS.nil⟩)
theorem plain_any (b : UInt8) (w0 : World) : Calls Tryz.prog 199 #[.int .u8 (b.toNat : Nat)] w0 (Ret fun v w => v = .bool (plaB b) ∧ St w0 [] w) := by
  refine enter Tryz.func199 rfl Tryz.ntmps199 rfl (fun a hk => ?_); have hS := St.refl w0
  (repeat' (first | (show wpListIn _ _ _ _ _ (_ :: _) _ _; first | (refine wx1 ?_; clear hk a; intro a hk) | (refine wx2 ?_ ?_ <;> (intro hp; clear hk a; intro a hk)) | (refine wx3 ?_; clear hk hS a; intro w b hS a hk) | (refine wx4 ?_; clear hk hS a; intro w hS a hk) | (refine wx5 ?_; clear hk hS a; intro w v hS a hk) | fail) | refine wx0 ?_ | (refine s_end hk ?_; clear hk a; intro a hk) | fail))
  refine sg hk (g_callO hk (hf := by kernel_rfl) (hc := letter_any b _) (h := ?_)); clear hk a; rintro _ w ⟨rfl, hS1⟩ a hk; replace hS := hS.call0 hS1; clear hS1
  cases h : letB b with
  | true =>
    rw [h] at hk
    unfold letB at h
    simp only [decide_eq_true_eq] at h
    (repeat' (first | (show wpListIn _ _ _ _ _ (_ :: _) _ _; first | (refine wx1 ?_; clear hk a; intro a hk) | (refine wx2 ?_ ?_ <;> (intro hp; clear hk a; intro a hk)) | (refine wx3 ?_; clear hk hS a; intro w b hS a hk) | (refine wx4 ?_; clear hk hS a; intro w hS a hk) | (refine wx5 ?_; clear hk hS a; intro w v hS a hk) | fail) | refine wx0 ?_ | (refine s_end hk ?_; clear hk a; intro a hk) | fail))
    exact done1 hk (h := ⟨by unfold plaB; rw [decide_eq_true (by omega)], hS.nil⟩)
  | false =>
    rw [h] at hk
    unfold letB at h
    simp only [decide_eq_false_iff_not] at h
    (repeat' (first | (show wpListIn _ _ _ _ _ (_ :: _) _ _; first | (refine wx1 ?_; clear hk a; intro a hk) | (refine wx2 ?_ ?_ <;> (intro hp; clear hk a; intro a hk)) | (refine wx3 ?_; clear hk hS a; intro w b hS a hk) | (refine wx4 ?_; clear hk hS a; intro w hS a hk) | (refine wx5 ?_; clear hk hS a; intro w v hS a hk) | fail) | refine wx0 ?_ | (refine s_end hk ?_; clear hk a; intro a hk) | fail))
    refine sg hk (g_callO hk (hf := by kernel_rfl) (hc := digit_any b _) (h := ?_)); clear hk a; rintro _ w ⟨rfl, hS1⟩ a hk; replace hS := hS.call0 hS1; clear hS1
    cases h2 : digB b with
    | true =>
      rw [h2] at hk
      unfold digB at h2
      simp only [decide_eq_true_eq] at h2
      (repeat' (first | (show wpListIn _ _ _ _ _ (_ :: _) _ _; first | (refine wx1 ?_; clear hk a; intro a hk) | (refine wx2 ?_ ?_ <;> (intro hp; clear hk a; intro a hk)) | (refine wx3 ?_; clear hk hS a; intro w b hS a hk) | (refine wx4 ?_; clear hk hS a; intro w hS a hk) | (refine wx5 ?_; clear hk hS a; intro w v hS a hk) | fail) | refine wx0 ?_ | (refine s_end hk ?_; clear hk a; intro a hk) | fail))
      exact done1 hk (h := ⟨by unfold plaB; rw [decide_eq_true (by omega)], hS.nil⟩)
    | false =>
      rw [h2] at hk
      unfold digB at h2
      simp only [decide_eq_false_iff_not] at h2
      (repeat' (first | (show wpListIn _ _ _ _ _ (_ :: _) _ _; first | (refine wx1 ?_; clear hk a; intro a hk) | (refine wx2 ?_ ?_ <;> (intro hp; clear hk a; intro a hk)) | (refine wx3 ?_; clear hk hS a; intro w b hS a hk) | (refine wx4 ?_; clear hk hS a; intro w hS a hk) | (refine wx5 ?_; clear hk hS a; intro w v hS a hk) | fail) | refine wx0 ?_ | (refine s_end hk ?_; clear hk a; intro a hk) | fail))
      all_goals exact done1 hk (h := ⟨by unfold plaB; first | rw [decide_eq_true (by omega)] | rw [decide_eq_false (by omega)], hS.nil⟩)
theorem all_any (fid : FuncId) (p : UInt8 → Bool) (hf : callable Tryz.prog fid = true) (hp : ∀ b w0, Calls Tryz.prog fid #[.int .u8 (b.toNat : Nat)] w0 (Ret fun v w => v = .bool (p b) ∧ St w0 [] w)) (s : ByteArray) (hs : s.size ≤ 1000000) (w0 : World) :
    Calls Tryz.prog 197 #[.string s, .func (.func fid) #[] #[]] w0 (Ret fun v w => v = .bool (s.data.toList.all p) ∧ St w0 [] w) := by
  refine enter Tryz.func197 rfl Tryz.ntmps197 rfl (fun a hk => ?_); have hS := St.refl w0
  (repeat' (first | (show wpListIn _ _ _ _ _ (_ :: _) _ _; first | (refine wx1 ?_; clear hk a; intro a hk) | (refine wx2 ?_ ?_ <;> (intro hp; clear hk a; intro a hk)) | (refine wx3 ?_; clear hk hS a; intro w b hS a hk) | (refine wx4 ?_; clear hk hS a; intro w hS a hk) | (refine wx5 ?_; clear hk hS a; intro w v hS a hk) | fail) | refine wx0 ?_ | (refine s_end hk ?_; clear hk a; intro a hk) | fail))
  replace hk := Kn.kp [0, 1, 7, 8] hk
  refine wp_for s.size (fun i _ => [(8, .int .i64 (i : Int))]) (fun _ _ => []) (fun i _ => (s.data.toList.take i).all p = true) () hk (by repeat (first | exact trivial | refine ⟨rfl, ?_⟩)) hS.sb (by simp) ?_
  clear hk hS a
  rintro i - a w hi hk hS hF
  by_cases hil : i < s.size
  · have htk := all_take hil p
    (repeat' (first | (show wpListIn _ _ _ _ _ (_ :: _) _ _; first | (refine wx1 ?_; clear hk a; intro a hk) | (refine wx2 ?_ ?_ <;> (intro hp; clear hk a; intro a hk)) | (refine wx3 ?_; clear hk hS a; intro w b hS a hk) | (refine wx4 ?_; clear hk hS a; intro w hS a hk) | (refine wx5 ?_; clear hk hS a; intro w v hS a hk) | fail) | refine wx0 ?_ | (refine s_end hk ?_; clear hk a; intro a hk) | fail))
    refine sg hk (g_callvO hk (hf := hf) (hc := hp s[i] _) (h := ?_)); clear hk a; rintro _ w ⟨rfl, hS1⟩ a hk; replace hS := hS.call0 hS1; clear hS1
    cases hb : p s[i] with
    | true =>
      rw [hb] at hk
      (repeat' (first | (show wpListIn _ _ _ _ _ (_ :: _) _ _; first | (refine wx1 ?_; clear hk a; intro a hk) | (refine wx2 ?_ ?_ <;> (intro hp; clear hk a; intro a hk)) | (refine wx3 ?_; clear hk hS a; intro w b hS a hk) | (refine wx4 ?_; clear hk hS a; intro w hS a hk) | (refine wx5 ?_; clear hk hS a; intro w v hS a hk) | fail) | refine wx0 ?_ | (refine s_end hk ?_; clear hk a; intro a hk) | fail))
      exact ⟨hil, (), hk.sd, hS.sb, by rw [htk, hF, hb]; rfl⟩
    | false =>
      rw [hb] at hk
      (repeat' (first | (show wpListIn _ _ _ _ _ (_ :: _) _ _; first | (refine wx1 ?_; clear hk a; intro a hk) | (refine wx2 ?_ ?_ <;> (intro hp; clear hk a; intro a hk)) | (refine wx3 ?_; clear hk hS a; intro w b hS a hk) | (refine wx4 ?_; clear hk hS a; intro w hS a hk) | (refine wx5 ?_; clear hk hS a; intro w v hS a hk) | fail) | refine wx0 ?_ | (refine s_end hk ?_; clear hk a; intro a hk) | fail))
      exact done1 hk (h := ⟨by rw [all_no hil hb], hS.nil⟩)
  · have : i = s.size := by omega
    subst this
    rw [all_full] at hF
    (repeat' (first | (show wpListIn _ _ _ _ _ (_ :: _) _ _; first | (refine wx1 ?_; clear hk a; intro a hk) | (refine wx2 ?_ ?_ <;> (intro hp; clear hk a; intro a hk)) | (refine wx3 ?_; clear hk hS a; intro w b hS a hk) | (refine wx4 ?_; clear hk hS a; intro w hS a hk) | (refine wx5 ?_; clear hk hS a; intro w v hS a hk) | fail) | refine wx0 ?_ | (refine s_end hk ?_; clear hk a; intro a hk) | fail))
    exact done1 hk (h := ⟨by rw [hF], hS.nil⟩)
theorem key_any (s : ByteArray) (hs : s.size ≤ 1000000) (w0 : World) : Calls Tryz.prog 161 #[.string s] w0 (Ret fun v w => v = .bool (keyS s) ∧ St w0 [] w) := by
  refine enter Tryz.func161 rfl Tryz.ntmps161 rfl (fun a hk => ?_); have hS := St.refl w0
  have he := emp_iff (s := s)
  by_cases h0 : s = ⟨#[]⟩
  · have h1 := he.1 h0
    (repeat' (first | (show wpListIn _ _ _ _ _ (_ :: _) _ _; first | (refine wx1 ?_; clear hk a; intro a hk) | (refine wx2 ?_ ?_ <;> (intro hp; clear hk a; intro a hk)) | (refine wx3 ?_; clear hk hS a; intro w b hS a hk) | (refine wx4 ?_; clear hk hS a; intro w hS a hk) | (refine wx5 ?_; clear hk hS a; intro w v hS a hk) | fail) | refine wx0 ?_ | (refine s_end hk ?_; clear hk a; intro a hk) | fail))
    all_goals first
      | exact done1 hk (h := ⟨by unfold keyS; rw [decide_eq_false (by omega)]; rfl, hS.nil⟩)
      | (exfalso; contradiction)
  · have h1 : s.size ≠ 0 := fun h => h0 (he.2 h)
    by_cases h2 : s.size ≤ 16
    · (repeat' (first | (show wpListIn _ _ _ _ _ (_ :: _) _ _; first | (refine wx1 ?_; clear hk a; intro a hk) | (refine wx2 ?_ ?_ <;> (intro hp; clear hk a; intro a hk)) | (refine wx3 ?_; clear hk hS a; intro w b hS a hk) | (refine wx4 ?_; clear hk hS a; intro w hS a hk) | (refine wx5 ?_; clear hk hS a; intro w v hS a hk) | fail) | refine wx0 ?_ | (refine s_end hk ?_; clear hk a; intro a hk) | fail))
      refine sg hk (g_callO hk (hf := by kernel_rfl) (hc := all_any 199 plaB (by kernel_rfl) plain_any s hs _) (h := ?_)); clear hk a; rintro _ w ⟨rfl, hS1⟩ a hk; replace hS := hS.call0 hS1; clear hS1
      (repeat' (first | (show wpListIn _ _ _ _ _ (_ :: _) _ _; first | (refine wx1 ?_; clear hk a; intro a hk) | (refine wx2 ?_ ?_ <;> (intro hp; clear hk a; intro a hk)) | (refine wx3 ?_; clear hk hS a; intro w b hS a hk) | (refine wx4 ?_; clear hk hS a; intro w hS a hk) | (refine wx5 ?_; clear hk hS a; intro w v hS a hk) | fail) | refine wx0 ?_ | (refine s_end hk ?_; clear hk a; intro a hk) | fail))
      exact done1 hk (h := ⟨by unfold keyS; rw [decide_eq_true (by omega)]; rfl, hS.nil⟩)
    · (repeat' (first | (show wpListIn _ _ _ _ _ (_ :: _) _ _; first | (refine wx1 ?_; clear hk a; intro a hk) | (refine wx2 ?_ ?_ <;> (intro hp; clear hk a; intro a hk)) | (refine wx3 ?_; clear hk hS a; intro w b hS a hk) | (refine wx4 ?_; clear hk hS a; intro w hS a hk) | (refine wx5 ?_; clear hk hS a; intro w v hS a hk) | fail) | refine wx0 ?_ | (refine s_end hk ?_; clear hk a; intro a hk) | fail))
      exact done1 hk (h := ⟨by unfold keyS; rw [decide_eq_false (by omega)]; rfl, hS.nil⟩)
theorem name_any (s : ByteArray) (hs : s.size ≤ 1000000) (w0 : World) : Calls Tryz.prog 117 #[.string s] w0 (Ret fun v w => v = .bool (nameS s) ∧ St w0 [] w) := by
  refine enter Tryz.func117 rfl Tryz.ntmps117 rfl (fun a hk => ?_); have hS := St.refl w0
  (repeat' (first | (show wpListIn _ _ _ _ _ (_ :: _) _ _; first | (refine wx1 ?_; clear hk a; intro a hk) | (refine wx2 ?_ ?_ <;> (intro hp; clear hk a; intro a hk)) | (refine wx3 ?_; clear hk hS a; intro w b hS a hk) | (refine wx4 ?_; clear hk hS a; intro w hS a hk) | (refine wx5 ?_; clear hk hS a; intro w v hS a hk) | fail) | refine wx0 ?_ | (refine s_end hk ?_; clear hk a; intro a hk) | fail))
  refine sg hk (g_callO hk (hf := by kernel_rfl) (hc := key_any s hs _) (h := ?_)); clear hk a; rintro _ w ⟨rfl, hS1⟩ a hk; replace hS := hS.call0 hS1; clear hS1
  cases h : keyS s with
  | false =>
    rw [h] at hk
    (repeat' (first | (show wpListIn _ _ _ _ _ (_ :: _) _ _; first | (refine wx1 ?_; clear hk a; intro a hk) | (refine wx2 ?_ ?_ <;> (intro hp; clear hk a; intro a hk)) | (refine wx3 ?_; clear hk hS a; intro w b hS a hk) | (refine wx4 ?_; clear hk hS a; intro w hS a hk) | (refine wx5 ?_; clear hk hS a; intro w v hS a hk) | fail) | refine wx0 ?_ | (refine s_end hk ?_; clear hk a; intro a hk) | fail))
    exact done1 hk (h := ⟨by unfold nameS; rw [h]; rfl, hS.nil⟩)
  | true =>
    rw [h] at hk
    have h0 : 0 < s.size := by unfold keyS at h; simp at h; omega
    (repeat' (first | (show wpListIn _ _ _ _ _ (_ :: _) _ _; first | (refine wx1 ?_; clear hk a; intro a hk) | (refine wx2 ?_ ?_ <;> (intro hp; clear hk a; intro a hk)) | (refine wx3 ?_; clear hk hS a; intro w b hS a hk) | (refine wx4 ?_; clear hk hS a; intro w hS a hk) | (refine wx5 ?_; clear hk hS a; intro w v hS a hk) | fail) | refine wx0 ?_ | (refine s_end hk ?_; clear hk a; intro a hk) | fail))
    refine sg hk (g_callO hk (hf := by kernel_rfl) (hc := letter_any s[0] _) (h := ?_)); clear hk a; rintro _ w ⟨rfl, hS1⟩ a hk; replace hS := hS.call0 hS1; clear hS1
    (repeat' (first | (show wpListIn _ _ _ _ _ (_ :: _) _ _; first | (refine wx1 ?_; clear hk a; intro a hk) | (refine wx2 ?_ ?_ <;> (intro hp; clear hk a; intro a hk)) | (refine wx3 ?_; clear hk hS a; intro w b hS a hk) | (refine wx4 ?_; clear hk hS a; intro w hS a hk) | (refine wx5 ?_; clear hk hS a; intro w v hS a hk) | fail) | refine wx0 ?_ | (refine s_end hk ?_; clear hk a; intro a hk) | fail))
    exact done1 hk (h := ⟨by unfold nameS; rw [h, head_at h0]; rfl, hS.nil⟩)
theorem value_any (s : ByteArray) (hs : s.size ≤ 1000000) (w0 : World) : Calls Tryz.prog 200 #[.string s] w0 (Ret fun v w => v = .bool (valS s) ∧ St w0 [] w) := by
  refine enter Tryz.func200 rfl Tryz.ntmps200 rfl (fun a hk => ?_); have hS := St.refl w0
  by_cases h2 : s.size ≤ 32
  · (repeat' (first | (show wpListIn _ _ _ _ _ (_ :: _) _ _; first | (refine wx1 ?_; clear hk a; intro a hk) | (refine wx2 ?_ ?_ <;> (intro hp; clear hk a; intro a hk)) | (refine wx3 ?_; clear hk hS a; intro w b hS a hk) | (refine wx4 ?_; clear hk hS a; intro w hS a hk) | (refine wx5 ?_; clear hk hS a; intro w v hS a hk) | fail) | refine wx0 ?_ | (refine s_end hk ?_; clear hk a; intro a hk) | fail))
    refine sg hk (g_callO hk (hf := by kernel_rfl) (hc := all_any 218 visB (by kernel_rfl) visible_any s hs _) (h := ?_)); clear hk a; rintro _ w ⟨rfl, hS1⟩ a hk; replace hS := hS.call0 hS1; clear hS1
    (repeat' (first | (show wpListIn _ _ _ _ _ (_ :: _) _ _; first | (refine wx1 ?_; clear hk a; intro a hk) | (refine wx2 ?_ ?_ <;> (intro hp; clear hk a; intro a hk)) | (refine wx3 ?_; clear hk hS a; intro w b hS a hk) | (refine wx4 ?_; clear hk hS a; intro w hS a hk) | (refine wx5 ?_; clear hk hS a; intro w v hS a hk) | fail) | refine wx0 ?_ | (refine s_end hk ?_; clear hk a; intro a hk) | fail))
    exact done1 hk (h := ⟨by unfold valS; rw [decide_eq_true (by omega)]; rfl, hS.nil⟩)
  · (repeat' (first | (show wpListIn _ _ _ _ _ (_ :: _) _ _; first | (refine wx1 ?_; clear hk a; intro a hk) | (refine wx2 ?_ ?_ <;> (intro hp; clear hk a; intro a hk)) | (refine wx3 ?_; clear hk hS a; intro w b hS a hk) | (refine wx4 ?_; clear hk hS a; intro w hS a hk) | (refine wx5 ?_; clear hk hS a; intro w v hS a hk) | fail) | refine wx0 ?_ | (refine s_end hk ?_; clear hk a; intro a hk) | fail))
    exact done1 hk (h := ⟨by unfold valS; rw [decide_eq_false (by omega)]; rfl, hS.nil⟩)
theorem text_any (s : ByteArray) (hs : s.size ≤ 1000000) (w0 : World) : Calls Tryz.prog 159 #[.string s] w0 (Ret fun v w => v = .bool (txtS s) ∧ St w0 [] w) := by
  refine enter Tryz.func159 rfl Tryz.ntmps159 rfl (fun a hk => ?_); have hS := St.refl w0
  by_cases h2 : s.size ≤ 64
  · (repeat' (first | (show wpListIn _ _ _ _ _ (_ :: _) _ _; first | (refine wx1 ?_; clear hk a; intro a hk) | (refine wx2 ?_ ?_ <;> (intro hp; clear hk a; intro a hk)) | (refine wx3 ?_; clear hk hS a; intro w b hS a hk) | (refine wx4 ?_; clear hk hS a; intro w hS a hk) | (refine wx5 ?_; clear hk hS a; intro w v hS a hk) | fail) | refine wx0 ?_ | (refine s_end hk ?_; clear hk a; intro a hk) | fail))
    refine sg hk (g_callO hk (hf := by kernel_rfl) (hc := all_any 198 priB (by kernel_rfl) printed_any s hs _) (h := ?_)); clear hk a; rintro _ w ⟨rfl, hS1⟩ a hk; replace hS := hS.call0 hS1; clear hS1
    (repeat' (first | (show wpListIn _ _ _ _ _ (_ :: _) _ _; first | (refine wx1 ?_; clear hk a; intro a hk) | (refine wx2 ?_ ?_ <;> (intro hp; clear hk a; intro a hk)) | (refine wx3 ?_; clear hk hS a; intro w b hS a hk) | (refine wx4 ?_; clear hk hS a; intro w hS a hk) | (refine wx5 ?_; clear hk hS a; intro w v hS a hk) | fail) | refine wx0 ?_ | (refine s_end hk ?_; clear hk a; intro a hk) | fail))
    exact done1 hk (h := ⟨by unfold txtS; rw [decide_eq_true (by omega)]; rfl, hS.nil⟩)
  · (repeat' (first | (show wpListIn _ _ _ _ _ (_ :: _) _ _; first | (refine wx1 ?_; clear hk a; intro a hk) | (refine wx2 ?_ ?_ <;> (intro hp; clear hk a; intro a hk)) | (refine wx3 ?_; clear hk hS a; intro w b hS a hk) | (refine wx4 ?_; clear hk hS a; intro w hS a hk) | (refine wx5 ?_; clear hk hS a; intro w v hS a hk) | fail) | refine wx0 ?_ | (refine s_end hk ?_; clear hk a; intro a hk) | fail))
    exact done1 hk (h := ⟨by unfold txtS; rw [decide_eq_false (by omega)]; rfl, hS.nil⟩)
theorem reserved_any (s : ByteArray) (w0 : World) : Calls Tryz.prog 110 #[.string s] w0 (Ret fun v w => v = .bool (rsvS s) ∧ St w0 [] w) := by
  refine enter Tryz.func110 rfl Tryz.ntmps110 rfl (fun a hk => ?_); have hS := St.refl w0
  (repeat' (first | (show wpListIn _ _ _ _ _ (_ :: _) _ _; first | (refine wx1 ?_; clear hk a; intro a hk) | (refine wx2 ?_ ?_ <;> (intro hp; clear hk a; intro a hk)) | (refine wx3 ?_; clear hk hS a; intro w b hS a hk) | (refine wx4 ?_; clear hk hS a; intro w hS a hk) | (refine wx5 ?_; clear hk hS a; intro w v hS a hk) | fail) | refine wx0 ?_ | (refine s_end hk ?_; clear hk a; intro a hk) | fail))
  refine sg hk (g_callO hk (hf := by kernel_rfl) (hc := hasPrefix_any s ⟨#[116, 45]⟩ _) (h := ?_)); clear hk a; rintro _ w ⟨rfl, hS1⟩ a hk; replace hS := hS.call0 hS1; clear hS1
  (repeat' (first | (show wpListIn _ _ _ _ _ (_ :: _) _ _; first | (refine wx1 ?_; clear hk a; intro a hk) | (refine wx2 ?_ ?_ <;> (intro hp; clear hk a; intro a hk)) | (refine wx3 ?_; clear hk hS a; intro w b hS a hk) | (refine wx4 ?_; clear hk hS a; intro w hS a hk) | (refine wx5 ?_; clear hk hS a; intro w v hS a hk) | fail) | refine wx0 ?_ | (refine s_end hk ?_; clear hk a; intro a hk) | fail))
  exact done1 hk (h := ⟨rfl, hS.nil⟩)

end Go.Proofs.YtkcjkbnbblpomaaGreatDoor
