/- Layer 9: the laws: nothing of a view that may be is erased. Layer 7: flat nodes, as the form reads them. Layer 9: the table of powers of ten, as the form lays it. Layer 9: StillStays from the form's reading. Layer 9: the laws: views that may be are told apart by their texts. Layer 9: StillShows from the form's reading. -/
import Derived.Test.YtkcjkbnbblpomaaGreatDoorT21
import Derived.Test.YtkcjkbnbblpomaaGreatDoorT24
import Derived.Test.YtkcjkbnbblpomaaGreatDoorT27
import Derived.Test.YtkcjkbnbblpomaaGreatDoorT29
import Derived.Test.YtkcjkbnbblpomaaGreatDoorT16
import Derived.Test.YtkcjkbnbblpomaaGreatDoorT12
import Derived.Test.YtkcjkbnbblpomaaGreatDoorT05
import Derived.Test.YtkcjkbnbblpomaaGreatDoorT18
import Derived.Test.YtkcjkbnbblpomaaGreatDoorRows
import Derived.Lay
import Derived.SevenTiedAt
set_option linter.all false
namespace Go.Proofs.YtkcjkbnbblpomaaGreatDoor
open Go.RowKit
set_option maxRecDepth 100000
attribute [local irreducible] Go.Code.wpIn Go.wpListIn Go.Calls Gives Go.Exit.then Go.Exit.inBlock Done ObxE

set_option maxHeartbeats 8000000 in
theorem stillstays_any (F0 : List FlH) (v0 : Value) (w0 : World) (hv0 : SlT F0 v0 w0) (hR0 : ∀ h ∈ F0, FlR w0 h) (ht : TabW w0) : Calls Tryz.prog 7 #[v0] w0 (Ret fun v w => v = .bool true ∧ St w0 [] w) := by
  refine enter Tryz.func7 rfl Tryz.ntmps7 rfl (fun a hk => ?_); have hS := St.refl w0
  (repeat' (first | (show wpListIn _ _ _ _ _ (_ :: _) _ _; first | (refine wx1 ?_; clear hk a; intro a hk) | (refine wx2 ?_ ?_ <;> (intro hp; clear hk a; intro a hk)) | (refine wx3 ?_; clear hk hS a; intro w b hS a hk) | (refine wx4 ?_; clear hk hS a; intro w hS a hk) | (refine wx5 ?_; clear hk hS a; intro w v hS a hk) | fail) | refine wx0 ?_ | (refine s_end hk ?_; clear hk a; intro a hk) | fail))
  refine sg hk (g_callO hk (hf := by kernel_rfl) (hc := awake09_any _ (ht.mono hS.below)) (h := ?_)); clear hk a; rintro _ w ⟨rfl, hS1⟩ a hk; replace hS := hS.call0 hS1; clear hS1
  (repeat' (first | (show wpListIn _ _ _ _ _ (_ :: _) _ _; first | (refine wx1 ?_; clear hk a; intro a hk) | (refine wx2 ?_ ?_ <;> (intro hp; clear hk a; intro a hk)) | (refine wx3 ?_; clear hk hS a; intro w b hS a hk) | (refine wx4 ?_; clear hk hS a; intro w hS a hk) | (refine wx5 ?_; clear hk hS a; intro w v hS a hk) | fail) | refine wx0 ?_ | (refine s_end hk ?_; clear hk a; intro a hk) | fail))
  have hw0 : Frz w0 w0 := Frz.refl _
  have hv0' := hv0
  refine sg hk (g_callO hk (hf := by kernel_rfl) (hc := tree07_any F0 v0 25 (by omega) (by omega) _ (hS.rdT hv0') (fun h hh => (hR0 h hh).frz (hw0.trans hS.frz))) (h := ?_)); clear hk a; rintro vr w ⟨t0, hs0, hc0, hS1⟩ a hk; replace hS := hS.call hS1; clear hS1
  rw [List.cons_append] at hS
  obtain ⟨hd0, rfl, hS1⟩ := St.tree hS .here
  clear hS
  have hS := hS1
  clear hS1
  have hf0 := (hs0.fit (by omega)).fits
  have hfit0 := (hs0.fit (by omega)).mono (Y := 1000000) (by omega)
  have hfn0 := (hs0.fit (by omega)).nrm.fits
  have hsz0 := hs0.siz.mono (Y := 1000000) (by omega)
  obtain ⟨hm01, hm02, hm03⟩ := stl_small hs0 (by omega)
  have hsf0 : SFits (stl (nrm t0)) := stl_fits hfn0
  have hri0 := nrm_ris t0
  have hcn := (nrm_cnt t0).1
  have hok : chk7 t0 20 4096 = 0 → erT (stl (nrm t0)) = stl (nrm t0) ∧ (stl (nrm t0)).ghost = false ∧ (preT (stl (nrm t0))).length = cnt (nrm t0) := fun h => by
    have ho := (chk_okR t0 _ _ _ h).1.nrm
    obtain ⟨q1, q2⟩ := okR_er ho hri0
    exact ⟨q1, q2, okR_pre ho⟩
  refine sg hk (g_callO hk (hf := by kernel_rfl) (hc := own07_any (SizeOf.sizeOf t0 + 1) t0 hd0 _ (by omega) hf0 (hS.trR (by (repeat (first | exact At.here | apply At.there))))) (h := ?_)); clear hk a; rintro vm w hS1 a hk; replace hS := hS.call hS1; clear hS1
  rw [List.cons_append, List.nil_append] at hS
  obtain ⟨hn0, rfl, hS1⟩ := St.tree hS .here
  clear hS
  have hS := hS1
  clear hS1
  obtain ⟨nk, nt, ny, nx, ⟨na1, na2, na3⟩, ⟨nb1, nb2, nb3⟩, ⟨nc1, nc2, nc3⟩, ⟨ne, nl, nm, nd, np, nq⟩, ⟨nd1, nd2, nd3⟩⟩ := hn0
  (repeat' (first | (show wpListIn _ _ _ _ _ (_ :: _) _ _; first | (refine wx1 ?_; clear hk a; intro a hk) | (refine wx2 ?_ ?_ <;> (intro hp; clear hk a; intro a hk)) | (refine wx3 ?_; clear hk hS a; intro w b hS a hk) | (refine wx4 ?_; clear hk hS a; intro w hS a hk) | (refine wx5 ?_; clear hk hS a; intro w v hS a hk) | fail) | refine wx0 ?_ | (refine s_end hk ?_; clear hk a; intro a hk) | fail))
  obtain ⟨g1, hxg1, hrg1, hS1⟩ := hS.freeze (A := treeR t0 (nk, nt, ny, nx, ⟨na1, na2, na3⟩, ⟨nb1, nb2, nb3⟩, ⟨nc1, nc2, nc3⟩, (ne, nl, nm, nd, np, nq), ⟨nd1, nd2, nd3⟩)) (by (repeat (first | exact At.here | apply At.there)))
  clear hS
  have hS := hS1
  clear hS1
  have hxg1 : Frz w0 g1 := hxg1.1
  have hN1 : TrR g1 t0 (nk, nt, ny, nx, ⟨na1, na2, na3⟩, ⟨nb1, nb2, nb3⟩, ⟨nc1, nc2, nc3⟩, (ne, nl, nm, nd, np, nq), ⟨nd1, nd2, nd3⟩) := rdH.rd (TrR.stays _ _) hrg1
  replace hS : St ⟨g1, w0⟩ _ w := hS
  refine sg hk (g_callO hk (hf := by kernel_rfl) (hc := of9_any t0 (nk, nt, ny, nx, ⟨na1, na2, na3⟩, ⟨nb1, nb2, nb3⟩, ⟨nc1, nc2, nc3⟩, (ne, nl, nm, nd, np, nq), ⟨nd1, nd2, nd3⟩) _ hfit0 hfn0 (hS.rdTr hN1)) (h := ?_)); clear hk a; rintro vn w hS1 a hk; replace hS := hS.call hS1; clear hS1
  rw [List.cons_append] at hS
  obtain ⟨hx, rfl, hS1⟩ := St.stree hS .here
  clear hS
  have hS := hS1
  clear hS1
  obtain ⟨pi, pk, pt, px, ⟨pa1, pa2, pa3⟩, ⟨pb1, pb2, pb3⟩, ⟨pc1, pc2, pc3⟩, ⟨pd1, pd2, pd3⟩⟩ := hx
  generalize hTT : stl (nrm t0) = T at *
  (repeat' (first | (show wpListIn _ _ _ _ _ (_ :: _) _ _; first | (refine wx1 ?_; clear hk a; intro a hk) | (refine wx2 ?_ ?_ <;> (intro hp; clear hk a; intro a hk)) | (refine wx3 ?_; clear hk hS a; intro w b hS a hk) | (refine wx4 ?_; clear hk hS a; intro w hS a hk) | (refine wx5 ?_; clear hk hS a; intro w v hS a hk) | fail) | refine wx0 ?_ | (refine s_end hk ?_; clear hk a; intro a hk) | fail))
  obtain ⟨g2, hxg2, hrg2, hS1⟩ := hS.freeze (A := streeR T (pi, pk, pt, px, ⟨pa1, pa2, pa3⟩, ⟨pb1, pb2, pb3⟩, ⟨pc1, pc2, pc3⟩, ⟨pd1, pd2, pd3⟩)) (by (repeat (first | exact At.here | apply At.there)))
  clear hS
  have hS := hS1
  clear hS1
  have hxg2 : Frz g1 g2 := hxg2.1
  have hT2 : SrR g2 T (pi, pk, pt, px, ⟨pa1, pa2, pa3⟩, ⟨pb1, pb2, pb3⟩, ⟨pc1, pc2, pc3⟩, ⟨pd1, pd2, pd3⟩) := rdH.rd (SrR.stays _ _) hrg2
  have hN2 := hN1.frz hxg2
  replace hS : St ⟨g2, w0⟩ _ w := hS
  refine sg hk (g_callO hk (hf := by kernel_rfl) (hc := erase9_any (SizeOf.sizeOf T + 1) T (pi, pk, pt, px, ⟨pa1, pa2, pa3⟩, ⟨pb1, pb2, pb3⟩, ⟨pc1, pc2, pc3⟩, ⟨pd1, pd2, pd3⟩) _ (by omega) hsf0 (hS.rdSr hT2)) (h := ?_)); clear hk a; rintro vr w ⟨⟨ri, rk, rt, rx, ⟨ra1, ra2, ra3⟩, ⟨rb1, rb2, rb3⟩, ⟨rc1, rc2, rc3⟩, ⟨rd1, rd2, rd3⟩⟩, rfl, hS1⟩ a hk; replace hS := hS.call hS1; clear hS1
  rw [List.cons_append] at hS
  have hck := fun w0 h1 => Check7_any t0 (nk, nt, ny, nx, ⟨na1, na2, na3⟩, ⟨nb1, nb2, nb3⟩, ⟨nc1, nc2, nc3⟩, (ne, nl, nm, nd, np, nq), ⟨nd1, nd2, nd3⟩) 20 4096 w0 hf0 hsz0 (by omega) h1
  generalize hC : chk7 t0 20 4096 = C at *
  unfold erO at hS
  generalize hgT : T.ghost = gT at *
  cases gT with
  | true =>
    rw [if_pos rfl] at hS
    obtain ⟨g3, hxg3, hrg3, hS1⟩ := hS.freeze (A := streeR zTr (ri, rk, rt, rx, ⟨ra1, ra2, ra3⟩, ⟨rb1, rb2, rb3⟩, ⟨rc1, rc2, rc3⟩, ⟨rd1, rd2, rd3⟩)) (by (repeat (first | exact At.here | apply At.there)))
    clear hS
    have hS := hS1
    clear hS1
    have hxg3 : Frz g2 g3 := hxg3.1
    have hz3 : SrR g3 zTr (ri, rk, rt, rx, ⟨ra1, ra2, ra3⟩, ⟨rb1, rb2, rb3⟩, ⟨rc1, rc2, rc3⟩, ⟨rd1, rd2, rd3⟩) := rdH.rd (SrR.stays _ _) hrg3
    have hN3 := hN2.frz hxg3
    replace hS : St ⟨g3, w0⟩ _ w := hS
    obtain ⟨hk0, hk1, -⟩ := zTr_cells hz3
    subst hk0
    have hC0 : ¬ C = 0 := fun h => by
      have := (hok h).2.1
      cases this
    (repeat' (first | (show wpListIn _ _ _ _ _ (_ :: _) _ _; first | (refine wx1 ?_; clear hk a; intro a hk) | (refine wx2 ?_ ?_ <;> (intro hp; clear hk a; intro a hk)) | (refine wx3 ?_; clear hk hS a; intro w b hS a hk) | (refine wx4 ?_; clear hk hS a; intro w hS a hk) | (refine wx5 ?_; clear hk hS a; intro w v hS a hk) | fail) | refine wx0 ?_ | (refine s_end hk ?_; clear hk a; intro a hk) | fail))
    refine sg hk (g_callO hk (hf := by kernel_rfl) (hc := hck _ (hS.rdTr hN3)) (h := ?_)); clear hk a; rintro _ w ⟨rfl, hS1⟩ a hk; replace hS := hS.call0 hS1; clear hS1
    (repeat' (first | (show wpListIn _ _ _ _ _ (_ :: _) _ _; first | (refine wx1 ?_; clear hk a; intro a hk) | (refine wx2 ?_ ?_ <;> (intro hp; clear hk a; intro a hk)) | (refine wx3 ?_; clear hk hS a; intro w b hS a hk) | (refine wx4 ?_; clear hk hS a; intro w hS a hk) | (refine wx5 ?_; clear hk hS a; intro w v hS a hk) | fail) | refine wx0 ?_ | (refine s_end hk ?_; clear hk a; intro a hk) | fail))
    exact done1 hk (h := ⟨rfl, hS.flat⟩)
  | false =>
    rw [if_neg (by decide)] at hS
    obtain ⟨g3, hxg3, hrg3, hS1⟩ := hS.freeze (A := streeR (erT T) (ri, rk, rt, rx, ⟨ra1, ra2, ra3⟩, ⟨rb1, rb2, rb3⟩, ⟨rc1, rc2, rc3⟩, ⟨rd1, rd2, rd3⟩)) (by (repeat (first | exact At.here | apply At.there)))
    clear hS
    have hS := hS1
    clear hS1
    have hxg3 : Frz g2 g3 := hxg3.1
    have hU3 : SrR g3 (erT T) (ri, rk, rt, rx, ⟨ra1, ra2, ra3⟩, ⟨rb1, rb2, rb3⟩, ⟨rc1, rc2, rc3⟩, ⟨rd1, rd2, rd3⟩) := rdH.rd (SrR.stays _ _) hrg3
    have hN3 := hN2.frz hxg3
    have hT3 := hT2.frz hxg3
    replace hS : St ⟨g3, w0⟩ _ w := hS
    by_cases hC0 : C = 0
    · obtain ⟨h1, -, h2⟩ := hok hC0
      subst hC0
      rw [h1] at hU3
      have his := fun w0 hx h1 h2 => is9_any T T (ri, rk, rt, rx, ⟨ra1, ra2, ra3⟩, ⟨rb1, rb2, rb3⟩, ⟨rc1, rc2, rc3⟩, ⟨rd1, rd2, rd3⟩) hx w0 hsf0 hsf0 (by omega) (by omega) h1 h2
      rw [eqS_self, decide_eq_true rfl] at his
      have hsz9 := fun w0 h1 => size9_any T (pi, pk, pt, px, ⟨pa1, pa2, pa3⟩, ⟨pb1, pb2, pb3⟩, ⟨pc1, pc2, pc3⟩, ⟨pd1, pd2, pd3⟩) w0 hsf0 (by omega) h1
      rw [h2] at hsz9
      (repeat' (first | (show wpListIn _ _ _ _ _ (_ :: _) _ _; first | (refine wx1 ?_; clear hk a; intro a hk) | (refine wx2 ?_ ?_ <;> (intro hp; clear hk a; intro a hk)) | (refine wx3 ?_; clear hk hS a; intro w b hS a hk) | (refine wx4 ?_; clear hk hS a; intro w hS a hk) | (refine wx5 ?_; clear hk hS a; intro w v hS a hk) | fail) | refine wx0 ?_ | (refine s_end hk ?_; clear hk a; intro a hk) | fail))
      refine sg hk (g_callO hk (hf := by kernel_rfl) (hc := hck _ (hS.rdTr hN3)) (h := ?_)); clear hk a; rintro _ w ⟨rfl, hS1⟩ a hk; replace hS := hS.call0 hS1; clear hS1
      (repeat' (first | (show wpListIn _ _ _ _ _ (_ :: _) _ _; first | (refine wx1 ?_; clear hk a; intro a hk) | (refine wx2 ?_ ?_ <;> (intro hp; clear hk a; intro a hk)) | (refine wx3 ?_; clear hk hS a; intro w b hS a hk) | (refine wx4 ?_; clear hk hS a; intro w hS a hk) | (refine wx5 ?_; clear hk hS a; intro w v hS a hk) | fail) | refine wx0 ?_ | (refine s_end hk ?_; clear hk a; intro a hk) | fail))
      refine wp_drawn 15 mixed (by kernel_rfl) hk hS ?_; clear hk hS a
      (repeat' (first | (show ObxE _ _ _ _ _ _ _ _ _ (_ :: _) _ _ _; first | refine ox1 ?_ | (refine ox2 ?_ ?_ <;> intro hp) | fail) | fail))
      refine' obe_res (fun us a w hk hd hS => ?_) ?_; rotate_left; focus (have hk := Kn.vw hk (by repeat (first | exact VW.nil | apply VW.val rfl | apply VW.base rfl rfl | apply VW.res rfl | apply VW.upd rfl | apply VW.cpy rfl | apply VW.dep rfl | apply VW.fn rfl | apply VW.lnd rfl | apply VW.tak rfl)); exact g_callO hk (hf := by kernel_rfl) (hc := told9_any (SizeOf.sizeOf T + 1) T (pi, pk, pt, px, ⟨pa1, pa2, pa3⟩, ⟨pb1, pb2, pb3⟩, ⟨pc1, pc2, pc3⟩, ⟨pd1, pd2, pd3⟩) _ (by omega) hsf0 (hS.rdSr hT3)) (h := fun _ _ h => h))
      refine' obe_val (fun us a w hk hd hS => ?_) ?_; rotate_left; focus (have hk := Kn.vw hk (by repeat (first | exact VW.nil | apply VW.val rfl | apply VW.base rfl rfl | apply VW.res rfl | apply VW.upd rfl | apply VW.cpy rfl | apply VW.dep rfl | apply VW.fn rfl | apply VW.lnd rfl | apply VW.tak rfl)); obtain ⟨hx, ex, hrx⟩ := streeH.rd hd.2.1; simp only [Nat.zero_add, Nat.reduceAdd] at hk ex; rw [ex] at hk; exact g_callO hk (hf := by kernel_rfl) (hc := his _ hx (hS.rdSr hU3) hrx) (h := fun _ _ h => h))
      (repeat' (first | (show ObxE _ _ _ _ _ _ _ _ _ (_ :: _) _ _ _; first | refine ox1 ?_ | (refine ox2 ?_ ?_ <;> intro hp) | fail) | fail))
      refine' obe_val (fun us a w hk hd hS => ?_) ?_; rotate_left; focus (have hk := Kn.vw hk (by repeat (first | exact VW.nil | apply VW.val rfl | apply VW.base rfl rfl | apply VW.res rfl | apply VW.upd rfl | apply VW.cpy rfl | apply VW.dep rfl | apply VW.fn rfl | apply VW.lnd rfl | apply VW.tak rfl)); exact g_callO hk (hf := by kernel_rfl) (hc := hsz9 _ (hS.rdSr hT3)) (h := fun _ _ h => h))
      (repeat' (first | (show ObxE _ _ _ _ _ _ _ _ _ (_ :: _) _ _ _; first | refine ox1 ?_ | (refine ox2 ?_ ?_ <;> intro hp) | fail) | fail))
      refine' obe_res (fun us a w hk hd hS => ?_) ?_; rotate_left; focus (have hk := Kn.vw hk (by repeat (first | exact VW.nil | apply VW.val rfl | apply VW.base rfl rfl | apply VW.res rfl | apply VW.upd rfl | apply VW.cpy rfl | apply VW.dep rfl | apply VW.fn rfl | apply VW.lnd rfl | apply VW.tak rfl)); exact g_callO hk (hf := by kernel_rfl) (hc := normal_any 1000000 (by omega) (SizeOf.sizeOf t0 + 1) t0 (nk, nt, ny, nx, ⟨na1, na2, na3⟩, ⟨nb1, nb2, nb3⟩, ⟨nc1, nc2, nc3⟩, (ne, nl, nm, nd, np, nq), ⟨nd1, nd2, nd3⟩) _ (by omega) hfit0 (hS.rdTr hN3)) (h := fun _ _ h => h))
      refine' obe_val (fun us a w hk hd hS => ?_) ?_; rotate_left; focus (have hk := Kn.vw hk (by repeat (first | exact VW.nil | apply VW.val rfl | apply VW.base rfl rfl | apply VW.res rfl | apply VW.upd rfl | apply VW.cpy rfl | apply VW.dep rfl | apply VW.fn rfl | apply VW.lnd rfl | apply VW.tak rfl)); obtain ⟨hx, ex, hrx⟩ := treeH.rd hd.1; simp only [Nat.zero_add, Nat.reduceAdd] at hk ex; rw [ex] at hk; exact g_callO hk (hf := by kernel_rfl) (hc := size_any (nrm t0) hx _ ⟨hfn0, by omega⟩ hrx) (h := fun _ _ h => h))
      (repeat' (first | (show ObxE _ _ _ _ _ _ _ _ _ (_ :: _) _ _ _; first | refine ox1 ?_ | (refine ox2 ?_ ?_ <;> intro hp) | fail) | fail))
      all_goals first | exact absurd rfl (by assumption) | skip
      refine obe_nil ⟨rfl, ?_⟩; intro us a w hk hS
      (repeat' (first | (show wpListIn _ _ _ _ _ (_ :: _) _ _; first | (refine wx1 ?_; clear hk a; intro a hk) | (refine wx2 ?_ ?_ <;> (intro hp; clear hk a; intro a hk)) | (refine wx3 ?_; clear hk hS a; intro w b hS a hk) | (refine wx4 ?_; clear hk hS a; intro w hS a hk) | (refine wx5 ?_; clear hk hS a; intro w v hS a hk) | fail) | refine wx0 ?_ | (refine s_end hk ?_; clear hk a; intro a hk) | fail))
      exact done1 hk (h := ⟨rfl, hS.flat⟩)
    · (repeat' (first | (show wpListIn _ _ _ _ _ (_ :: _) _ _; first | (refine wx1 ?_; clear hk a; intro a hk) | (refine wx2 ?_ ?_ <;> (intro hp; clear hk a; intro a hk)) | (refine wx3 ?_; clear hk hS a; intro w b hS a hk) | (refine wx4 ?_; clear hk hS a; intro w hS a hk) | (refine wx5 ?_; clear hk hS a; intro w v hS a hk) | fail) | refine wx0 ?_ | (refine s_end hk ?_; clear hk a; intro a hk) | fail))
      refine sg hk (g_callO hk (hf := by kernel_rfl) (hc := hck _ (hS.rdTr hN3)) (h := ?_)); clear hk a; rintro _ w ⟨rfl, hS1⟩ a hk; replace hS := hS.call0 hS1; clear hS1
      (repeat' (first | (show wpListIn _ _ _ _ _ (_ :: _) _ _; first | (refine wx1 ?_; clear hk a; intro a hk) | (refine wx2 ?_ ?_ <;> (intro hp; clear hk a; intro a hk)) | (refine wx3 ?_; clear hk hS a; intro w b hS a hk) | (refine wx4 ?_; clear hk hS a; intro w hS a hk) | (refine wx5 ?_; clear hk hS a; intro w v hS a hk) | fail) | refine wx0 ?_ | (refine s_end hk ?_; clear hk a; intro a hk) | fail))
      exact done1 hk (h := ⟨rfl, hS.flat⟩)
end Go.Proofs.YtkcjkbnbblpomaaGreatDoor
namespace Go.Proofs.YtkcjkbnbblpomaaGreatDoor
open Go.RowKit
set_option maxRecDepth 100000
attribute [local irreducible] Go.Code.wpIn Go.wpListIn Go.Calls Gives Go.Exit.then Go.Exit.inBlock Done ObxE

theorem rdg_attr {W : World} {D : Nat} {us : List Value} (h : Rdg Tryz.prog W (D + 2) 97 us) : ∃ x : ByteArray × ByteArray, Enc.f x = us := by
  have hl := rdg_len Tryz.underlying97 h (zT rfl)
  obtain ⟨a, ha, _⟩ := rdg_str (sT rfl) (rdg_fld Tryz.underlying97 h (i := 0) rfl (zT rfl))
  obtain ⟨b, hb, _⟩ := rdg_str (sT rfl) (rdg_fld Tryz.underlying97 h (i := 1) rfl (zT rfl))
  match us, hl with
  | [u0, u1], _ =>
    simp at ha hb
    subst ha hb
    exact ⟨(a, b), rfl⟩
theorem rdg_pair {W : World} {D : Nat} {us : List Value} (h : Rdg Tryz.prog W (D + 2) 105 us) : ∃ x : ByteArray × Int, Enc.f x = us ∧ in64 x.2 := by
  have hl := rdg_len Tryz.underlying105 h (zT rfl)
  obtain ⟨a, ha, _⟩ := rdg_str (sT rfl) (rdg_fld Tryz.underlying105 h (i := 0) rfl (zT rfl))
  obtain ⟨b, hb, hr⟩ := rdg_int (iT rfl) (rdg_fld Tryz.underlying105 h (i := 1) rfl (zT rfl))
  match us, hl with
  | [u0, u1], _ =>
    simp at ha hb
    subst ha hb
    exact ⟨(a, b), rfl, hr⟩
theorem rdg_opts {W : World} {D : Nat} {us : List Value} (h : Rdg Tryz.prog W (D + 2) 28 us) : ∃ x : Opt, Enc.f x = us ∧ in64 x.1 ∧ in64 x.2.1 ∧ in64 x.2.2.1 ∧ in64 x.2.2.2.1 := by
  have hl := rdg_len Tryz.underlying28 h (zT rfl)
  obtain ⟨a, ha, r1⟩ := rdg_int (iT rfl) (rdg_fld Tryz.underlying28 h (i := 0) rfl (zT rfl))
  obtain ⟨b, hb, r2⟩ := rdg_int (iT rfl) (rdg_fld Tryz.underlying28 h (i := 1) rfl (zT rfl))
  obtain ⟨c, hc, r3⟩ := rdg_int (iT rfl) (rdg_fld Tryz.underlying28 h (i := 2) rfl (zT rfl))
  obtain ⟨d, hd, r4⟩ := rdg_int (iT rfl) (rdg_fld Tryz.underlying28 h (i := 3) rfl (zT rfl))
  obtain ⟨e, he⟩ := rdg_bool Tryz.underlying4 (rdg_fld Tryz.underlying28 h (i := 4) rfl (zT rfl))
  obtain ⟨f, hf⟩ := rdg_bool Tryz.underlying4 (rdg_fld Tryz.underlying28 h (i := 5) rfl (zT rfl))
  match us, hl with
  | [u0, u1, u2, u3, u4, u5], _ =>
    simp at ha hb hc hd he hf
    subst ha hb hc hd he hf
    exact ⟨(a, b, c, d, e, f), rfl, r1, r2, r3, r4⟩

theorem rdg_flat {W : World} {D : Nat} {us : List Value} (h : Rdg Tryz.prog W (D + 4) 91 us) : ∃ x : FlH, Enc.f x = us ∧ FlR W x := by
  have hl := rdg_len Tryz.underlying91 h (zT rfl)
  obtain ⟨a, h0, r1⟩ := rdg_int (iT rfl) (rdg_fld Tryz.underlying91 h (i := 0) rfl (zT rfl))
  obtain ⟨b, h1, r2⟩ := rdg_int (iT rfl) (rdg_fld Tryz.underlying91 h (i := 1) rfl (zT rfl))
  obtain ⟨c, h2, _⟩ := rdg_str (sT rfl) (rdg_fld Tryz.underlying91 h (i := 2) rfl (zT rfl))
  obtain ⟨d, h3, _⟩ := rdg_str (sT rfl) (rdg_fld Tryz.underlying91 h (i := 3) rfl (zT rfl))
  obtain ⟨e, h4, _⟩ := rdg_str (sT rfl) (rdg_fld Tryz.underlying91 h (i := 4) rfl (zT rfl))
  obtain ⟨v5, cl, h5, g5, _⟩ := SlT.of_rdg (α := ByteArray) (fun _ => True) (rdg_fld Tryz.underlying91 h (i := 5) rfl (zT rfl)) (eT rfl) (zT rfl) (fun us _ h => by obtain ⟨s, hs, _⟩ := rdg_str (sT rfl) h; exact ⟨s, hs.symm, trivial⟩)
  obtain ⟨v6, al, h6, g6, _⟩ := SlT.of_rdg (α := ByteArray × ByteArray) (fun _ => True) (rdg_fld Tryz.underlying91 h (i := 6) rfl (zT rfl)) (eT rfl) (zT rfl) (fun us _ h => by obtain ⟨s, hs⟩ := rdg_attr h; exact ⟨s, hs, trivial⟩)
  obtain ⟨v7, sl, h7, g7, g8⟩ := SlT.of_rdg (α := ByteArray × Int) (fun x => in64 x.2) (rdg_fld Tryz.underlying91 h (i := 7) rfl (zT rfl)) (eT rfl) (zT rfl) (fun us _ h => by obtain ⟨s, hs, h2⟩ := rdg_pair h; exact ⟨s, hs, h2⟩)
  obtain ⟨⟨q0, q1, q2, q3, q4, q5⟩, h8, s1, s2, s3, s4⟩ := rdg_opts (rdg_fld Tryz.underlying91 h (i := 8) rfl (zT rfl))
  match us, hl with
  | [u0, u1, u2, u3, u4, u5, u6, u7, u8, u9, u10, u11, u12, u13], _ =>
    simp at h0 h1 h2 h3 h4 h5 h6 h7
    subst h0 h1 h2 h3 h4 h5 h6 h7
    obtain ⟨a5, c5, rfl, _⟩ := g5.shape
    obtain ⟨a6, c6, rfl, _⟩ := g6.shape
    obtain ⟨a7, c7, rfl, _⟩ := g7.shape
    have h8' : ([.int .i64 q0, .int .i64 q1, .int .i64 q2, .int .i64 q3, .bool q4, .bool q5] : List Value) = [u8, u9, u10, u11, u12, u13] := h8
    simp only [List.cons.injEq, and_true] at h8'
    obtain ⟨rfl, rfl, rfl, rfl, rfl, rfl⟩ := h8'
    exact ⟨(a, b, c, d, e, ⟨a5, cl.length, c5⟩, ⟨a6, al.length, c6⟩, ⟨a7, sl.length, c7⟩, (q0, q1, q2, q3, q4, q5)), rfl, a, b, c, d, e, cl, al, sl, q0, q1, q2, q3, q4, q5, a5, a6, a7, c5, c6, c7, rfl, g5, g6, g7, r1, r2, s1, s2, s3, s4, g8⟩

theorem arg_flats {W : World} {v : Value} (h : Arg Tryz.prog W 22 v) : ∃ F : List FlH, SlT F v W ∧ ∀ x ∈ F, FlR W x := by
  obtain ⟨u, xs, h1, h2, h3⟩ := SlT.of_rdg (α := FlH) (FlR W) (D := 7) h.1 (eT rfl) (zT rfl) (fun us _ h => rdg_flat (D := 3) h)
  rw [h.2.2 (aT rfl)] at h1
  simp at h1
  subst h1
  exact ⟨xs, h2, h3⟩
end Go.Proofs.YtkcjkbnbblpomaaGreatDoor
namespace Go.Proofs.YtkcjkbnbblpomaaGreatDoor
open Go.RowKit
set_option maxRecDepth 100000
attribute [local irreducible] Go.Code.wpIn Go.wpListIn Go.Calls Gives Go.Exit.then Go.Exit.inBlock Done ObxE

theorem laid9 {W : World} {x y z : String × DataW Unit} (hz : z = ("internal/strconv.uint64pow10", Rows.laid_internal_strconv_uint64pow10)) (h : laidMet Tryz.prog [x, y, z] W) : TabW W := by
  subst hz
  have h2 := laid_tail (laid_tail h)
  exact Lib.tabIs_of_head (g := 1) (t := 250) (by kernel_rfl) (by kernel_rfl) Tryz.underlying250 Tryz.underlying233 (by kernel_rfl) (by kernel_rfl) h2
end Go.Proofs.YtkcjkbnbblpomaaGreatDoor
namespace Go.Proofs.YtkcjkbnbblpomaaGreatDoor
open Go.RowKit
set_option maxRecDepth 100000
attribute [local irreducible] Go.Code.wpIn Go.wpListIn Go.Calls Gives Go.Exit.then Go.Exit.inBlock Done ObxE

theorem laid_StillStays {W : World} (hL : laidMetH Tryz.prog Rows.stillStaysRow.laid W) : TabW W := by
  rw [MakeChecks.laidMetH_plain _ _ _ (by kernel_rfl)] at hL
  exact laid9 rfl hL
theorem walk_StillStays (W : World) (vs : List Value) (hL : laidMetH Tryz.prog Rows.stillStaysRow.laid W) (h : Args Tryz.prog W [22] vs) : Calls Tryz.prog 7 vs.toArray W (Ret fun v w => v = .bool true ∧ St W [] w) := by
  obtain ⟨v, rfl, ha⟩ := args1 h
  obtain ⟨F, hv, hR⟩ := arg_flats ha
  exact stillstays_any F v W hv hR (laid_StillStays hL)
end Go.Proofs.YtkcjkbnbblpomaaGreatDoor
namespace Go.Proofs.YtkcjkbnbblpomaaGreatDoor
open Go.RowKit
set_option maxRecDepth 100000
attribute [local irreducible] Go.Code.wpIn Go.wpListIn Go.Calls Gives Go.Exit.then Go.Exit.inBlock Done ObxE

set_option maxHeartbeats 8000000 in
theorem stillshows_any (F0 : List FlH) (v0 : Value) (F1 : List FlH) (v1 : Value) (w0 : World) (hv0 : SlT F0 v0 w0) (hR0 : ∀ h ∈ F0, FlR w0 h) (hv1 : SlT F1 v1 w0) (hR1 : ∀ h ∈ F1, FlR w0 h) (ht : TabW w0) : Calls Tryz.prog 6 #[v0, v1] w0 (Ret fun v w => v = .bool true ∧ St w0 [] w) := by
  refine enter Tryz.func6 rfl Tryz.ntmps6 rfl (fun a hk => ?_); have hS := St.refl w0
  (repeat' (first | (show wpListIn _ _ _ _ _ (_ :: _) _ _; first | (refine wx1 ?_; clear hk a; intro a hk) | (refine wx2 ?_ ?_ <;> (intro hp; clear hk a; intro a hk)) | (refine wx3 ?_; clear hk hS a; intro w b hS a hk) | (refine wx4 ?_; clear hk hS a; intro w hS a hk) | (refine wx5 ?_; clear hk hS a; intro w v hS a hk) | fail) | refine wx0 ?_ | (refine s_end hk ?_; clear hk a; intro a hk) | fail))
  refine sg hk (g_callO hk (hf := by kernel_rfl) (hc := awake09_any _ (ht.mono hS.below)) (h := ?_)); clear hk a; rintro _ w ⟨rfl, hS1⟩ a hk; replace hS := hS.call0 hS1; clear hS1
  (repeat' (first | (show wpListIn _ _ _ _ _ (_ :: _) _ _; first | (refine wx1 ?_; clear hk a; intro a hk) | (refine wx2 ?_ ?_ <;> (intro hp; clear hk a; intro a hk)) | (refine wx3 ?_; clear hk hS a; intro w b hS a hk) | (refine wx4 ?_; clear hk hS a; intro w hS a hk) | (refine wx5 ?_; clear hk hS a; intro w v hS a hk) | fail) | refine wx0 ?_ | (refine s_end hk ?_; clear hk a; intro a hk) | fail))
  have hw0 : Frz w0 w0 := Frz.refl _
  have hv0' := hv0
  have hv1' := hv1
  refine sg hk (g_callO hk (hf := by kernel_rfl) (hc := tree07_any F0 v0 12 (by omega) (by omega) _ (hS.rdT hv0') (fun h hh => (hR0 h hh).frz (hw0.trans hS.frz))) (h := ?_)); clear hk a; rintro vr w ⟨t0, hs0, hc0, hS1⟩ a hk; replace hS := hS.call hS1; clear hS1
  rw [List.cons_append] at hS
  obtain ⟨hd0, rfl, hS1⟩ := St.tree hS .here
  clear hS
  have hS := hS1
  clear hS1
  have hf0 := (hs0.fit (by omega)).fits
  have hfit0 := (hs0.fit (by omega)).mono (Y := 1000000) (by omega)
  have hfn0 := (hs0.fit (by omega)).nrm.fits
  have hsz0 := hs0.siz.mono (Y := 1000000) (by omega)
  obtain ⟨hm01, hm02, hm03⟩ := stl_small hs0 (by omega)
  have hsf0 : SFits (stl (nrm t0)) := stl_fits hfn0
  have hri0 := nrm_ris t0
  refine sg hk (g_callO hk (hf := by kernel_rfl) (hc := own07_any (SizeOf.sizeOf t0 + 1) t0 hd0 _ (by omega) hf0 (hS.trR (by (repeat (first | exact At.here | apply At.there))))) (h := ?_)); clear hk a; rintro vm w hS1 a hk; replace hS := hS.call hS1; clear hS1
  rw [List.cons_append, List.nil_append] at hS
  obtain ⟨hn0, rfl, hS1⟩ := St.tree hS .here
  clear hS
  have hS := hS1
  clear hS1
  obtain ⟨nk, nt, ny, nx, ⟨na1, na2, na3⟩, ⟨nb1, nb2, nb3⟩, ⟨nc1, nc2, nc3⟩, ⟨ne, nl, nm, nd, np, nq⟩, ⟨nd1, nd2, nd3⟩⟩ := hn0
  obtain ⟨g1, hxg1, hrg1, hS1⟩ := hS.freeze (A := treeR t0 (nk, nt, ny, nx, ⟨na1, na2, na3⟩, ⟨nb1, nb2, nb3⟩, ⟨nc1, nc2, nc3⟩, (ne, nl, nm, nd, np, nq), ⟨nd1, nd2, nd3⟩)) (by (repeat (first | exact At.here | apply At.there)))
  clear hS
  have hS := hS1
  clear hS1
  have hxg1 : Frz w0 g1 := hxg1.1
  have hN1 : TrR g1 t0 (nk, nt, ny, nx, ⟨na1, na2, na3⟩, ⟨nb1, nb2, nb3⟩, ⟨nc1, nc2, nc3⟩, (ne, nl, nm, nd, np, nq), ⟨nd1, nd2, nd3⟩) := rdH.rd (TrR.stays _ _) hrg1
  replace hS : St ⟨g1, w0⟩ _ w := hS
  have hv1'' := hv1.frz hxg1
  (repeat' (first | (show wpListIn _ _ _ _ _ (_ :: _) _ _; first | (refine wx1 ?_; clear hk a; intro a hk) | (refine wx2 ?_ ?_ <;> (intro hp; clear hk a; intro a hk)) | (refine wx3 ?_; clear hk hS a; intro w b hS a hk) | (refine wx4 ?_; clear hk hS a; intro w hS a hk) | (refine wx5 ?_; clear hk hS a; intro w v hS a hk) | fail) | refine wx0 ?_ | (refine s_end hk ?_; clear hk a; intro a hk) | fail))
  refine sg hk (g_callO hk (hf := by kernel_rfl) (hc := tree07_any F1 v1 12 (by omega) (by omega) _ (hS.rdT hv1'') (fun h hh => (hR1 h hh).frz (hxg1.trans hS.frz))) (h := ?_)); clear hk a; rintro vr w ⟨t1, hs1, hc1, hS1⟩ a hk; replace hS := hS.call hS1; clear hS1
  rw [List.cons_append] at hS
  obtain ⟨hd1, rfl, hS1⟩ := St.tree hS .here
  clear hS
  have hS := hS1
  clear hS1
  have hf1 := (hs1.fit (by omega)).fits
  have hfit1 := (hs1.fit (by omega)).mono (Y := 1000000) (by omega)
  have hfn1 := (hs1.fit (by omega)).nrm.fits
  have hsz1 := hs1.siz.mono (Y := 1000000) (by omega)
  obtain ⟨hm11, hm12, hm13⟩ := stl_small hs1 (by omega)
  have hsf1 : SFits (stl (nrm t1)) := stl_fits hfn1
  have hri1 := nrm_ris t1
  refine sg hk (g_callO hk (hf := by kernel_rfl) (hc := own07_any (SizeOf.sizeOf t1 + 1) t1 hd1 _ (by omega) hf1 (hS.trR (by (repeat (first | exact At.here | apply At.there))))) (h := ?_)); clear hk a; rintro vm w hS1 a hk; replace hS := hS.call hS1; clear hS1
  rw [List.cons_append] at hS
  obtain ⟨hn1, rfl, hS1⟩ := St.tree hS .here
  clear hS
  have hS := hS1
  clear hS1
  obtain ⟨ok, ot, oy, ox, ⟨oa1, oa2, oa3⟩, ⟨ob1, ob2, ob3⟩, ⟨oc1, oc2, oc3⟩, ⟨oe, ol, om, od, op, oq⟩, ⟨od1, od2, od3⟩⟩ := hn1
  obtain ⟨g2, hxg2, hrg2, hS1⟩ := hS.freeze (A := treeR t1 (ok, ot, oy, ox, ⟨oa1, oa2, oa3⟩, ⟨ob1, ob2, ob3⟩, ⟨oc1, oc2, oc3⟩, (oe, ol, om, od, op, oq), ⟨od1, od2, od3⟩)) (by (repeat (first | exact At.here | apply At.there)))
  clear hS
  have hS := hS1
  clear hS1
  have hxg2 : Frz g1 g2 := hxg2.1
  have hO2 : TrR g2 t1 (ok, ot, oy, ox, ⟨oa1, oa2, oa3⟩, ⟨ob1, ob2, ob3⟩, ⟨oc1, oc2, oc3⟩, (oe, ol, om, od, op, oq), ⟨od1, od2, od3⟩) := rdH.rd (TrR.stays _ _) hrg2
  have hN2 := hN1.frz hxg2
  replace hS : St ⟨g2, w0⟩ _ w := hS
  have hck := fun w0 h1 => Check7_any t0 (nk, nt, ny, nx, ⟨na1, na2, na3⟩, ⟨nb1, nb2, nb3⟩, ⟨nc1, nc2, nc3⟩, (ne, nl, nm, nd, np, nq), ⟨nd1, nd2, nd3⟩) 20 4096 w0 hf0 hsz0 (by omega) h1
  have hcl := fun w0 h1 => Check7_any t1 (ok, ot, oy, ox, ⟨oa1, oa2, oa3⟩, ⟨ob1, ob2, ob3⟩, ⟨oc1, oc2, oc3⟩, (oe, ol, om, od, op, oq), ⟨od1, od2, od3⟩) 20 4096 w0 hf1 hsz1 (by omega) h1
  have hok : chk7 t0 20 4096 = 0 → chk7 t1 20 4096 = 0 → ((showT false (stl (nrm t0)) = showT false (stl (nrm t1))) ↔ samS (stl (nrm t0)) (stl (nrm t1)) = true) := fun h h' =>
    show_sam (okR_vt (chk_okR t0 _ _ _ h).1.nrm) (okR_vt (chk_okR t1 _ _ _ h').1.nrm) hri0 hri1
  generalize hC : chk7 t0 20 4096 = C at *
  generalize hC' : chk7 t1 20 4096 = C' at *
  have hof0 := fun w0 h1 => of9_any t0 (nk, nt, ny, nx, ⟨na1, na2, na3⟩, ⟨nb1, nb2, nb3⟩, ⟨nc1, nc2, nc3⟩, (ne, nl, nm, nd, np, nq), ⟨nd1, nd2, nd3⟩) w0 hfit0 hfn0 h1
  have hof1 := fun w0 h1 => of9_any t1 (ok, ot, oy, ox, ⟨oa1, oa2, oa3⟩, ⟨ob1, ob2, ob3⟩, ⟨oc1, oc2, oc3⟩, (oe, ol, om, od, op, oq), ⟨od1, od2, od3⟩) w0 hfit1 hfn1 h1
  generalize hTT : stl (nrm t0) = T at *
  generalize hUU : stl (nrm t1) = U at *
  (repeat' (first | (show wpListIn _ _ _ _ _ (_ :: _) _ _; first | (refine wx1 ?_; clear hk a; intro a hk) | (refine wx2 ?_ ?_ <;> (intro hp; clear hk a; intro a hk)) | (refine wx3 ?_; clear hk hS a; intro w b hS a hk) | (refine wx4 ?_; clear hk hS a; intro w hS a hk) | (refine wx5 ?_; clear hk hS a; intro w v hS a hk) | fail) | refine wx0 ?_ | (refine s_end hk ?_; clear hk a; intro a hk) | fail))
  refine wp_drawn 6 mixed (by kernel_rfl) hk hS ?_; clear hk hS a
  (repeat' (first | (show ObxE _ _ _ _ _ _ _ _ _ (_ :: _) _ _ _; first | refine ox1 ?_ | (refine ox2 ?_ ?_ <;> intro hp) | fail) | fail))
  refine' obe_res (fun us a w hk hd hS => ?_) ?_; rotate_left; focus (have hk := Kn.vw hk (by repeat (first | exact VW.nil | apply VW.val rfl | apply VW.base rfl rfl | apply VW.res rfl | apply VW.upd rfl | apply VW.cpy rfl | apply VW.dep rfl | apply VW.fn rfl | apply VW.lnd rfl | apply VW.tak rfl)); exact g_callO hk (hf := by kernel_rfl) (hc := hof0 _ (hS.rdTr hN2)) (h := fun _ _ h => h))
  (repeat' (first | (show ObxE _ _ _ _ _ _ _ _ _ (_ :: _) _ _ _; first | refine ox1 ?_ | (refine ox2 ?_ ?_ <;> intro hp) | fail) | fail))
  refine' obe_res (fun us a w hk hd hS => ?_) ?_; rotate_left; focus (have hk := Kn.vw hk (by repeat (first | exact VW.nil | apply VW.val rfl | apply VW.base rfl rfl | apply VW.res rfl | apply VW.upd rfl | apply VW.cpy rfl | apply VW.dep rfl | apply VW.fn rfl | apply VW.lnd rfl | apply VW.tak rfl)); exact g_callO hk (hf := by kernel_rfl) (hc := hof1 _ (hS.rdTr hO2)) (h := fun _ _ h => h))
  refine' obe_res (fun us a w hk hd hS => ?_) ?_; rotate_left; focus (have hk := Kn.vw hk (by repeat (first | exact VW.nil | apply VW.val rfl | apply VW.base rfl rfl | apply VW.res rfl | apply VW.upd rfl | apply VW.cpy rfl | apply VW.dep rfl | apply VW.fn rfl | apply VW.lnd rfl | apply VW.tak rfl)); exact v_alloc hk (oT rfl))
  refine' obe_res (fun us a w hk hd hS => ?_) ?_; rotate_left; focus (have hk := Kn.vw hk (by repeat (first | exact VW.nil | apply VW.val rfl | apply VW.base rfl rfl | apply VW.res rfl | apply VW.upd rfl | apply VW.cpy rfl | apply VW.dep rfl | apply VW.fn rfl | apply VW.lnd rfl | apply VW.tak rfl)); exact v_alloc hk (oT rfl))
  refine obe_nil ⟨rfl, ?_⟩; intro us a w hk hS
  simp only [resE, List.cons_append, List.nil_append, Nat.zero_add, Nat.reduceAdd] at hS
  obtain ⟨b8, hb8, hS1⟩ := hS.ptv (by (repeat (first | exact At.here | apply At.there))); replace hS := hS1; clear hS1
  obtain ⟨b7, hb7, hS1⟩ := hS.ptv (by (repeat (first | exact At.here | apply At.there))); replace hS := hS1; clear hS1
  replace hk := Kn.kp [5, 6, 7, 8, 18, 20] hk
  simp only [HV.of, List.map, Nat.zero_add, Nat.reduceAdd] at hk
  generalize us 1 = v18 at hS hk
  generalize us 3 = v20 at hS hk
  obtain ⟨hx, rfl, hS1⟩ := St.stree (v := v18) (t := T) hS (by (repeat (first | exact At.here | apply At.there)))
  clear hS
  have hS := hS1
  clear hS1
  obtain ⟨hy, rfl, hS1⟩ := St.stree (v := v20) (t := U) hS (by (repeat (first | exact At.here | apply At.there)))
  clear hS
  have hS := hS1
  clear hS1
  rw [hb7, hb8] at hk
  obtain ⟨pi, pk, pt, px, ⟨pa1, pa2, pa3⟩, ⟨pb1, pb2, pb3⟩, ⟨pc1, pc2, pc3⟩, ⟨pd1, pd2, pd3⟩⟩ := hx
  obtain ⟨qi, qk, qt, qx, ⟨qa1, qa2, qa3⟩, ⟨qb1, qb2, qb3⟩, ⟨qc1, qc2, qc3⟩, ⟨qd1, qd2, qd3⟩⟩ := hy
  (repeat' (first | (show wpListIn _ _ _ _ _ (_ :: _) _ _; first | (refine wx1 ?_; clear hk a; intro a hk) | (refine wx2 ?_ ?_ <;> (intro hp; clear hk a; intro a hk)) | (refine wx3 ?_; clear hk hS a; intro w b hS a hk) | (refine wx4 ?_; clear hk hS a; intro w hS a hk) | (refine wx5 ?_; clear hk hS a; intro w v hS a hk) | fail) | refine wx0 ?_ | (refine s_end hk ?_; clear hk a; intro a hk) | fail))
  obtain ⟨g3, hxg3, hrg3, hS1⟩ := hS.freeze (A := streeR T (pi, pk, pt, px, ⟨pa1, pa2, pa3⟩, ⟨pb1, pb2, pb3⟩, ⟨pc1, pc2, pc3⟩, ⟨pd1, pd2, pd3⟩)) (by (repeat (first | exact At.here | apply At.there)))
  clear hS
  have hS := hS1
  clear hS1
  have hxg3 : Frz g2 g3 := hxg3.1
  have hP3 : SrR g3 T (pi, pk, pt, px, ⟨pa1, pa2, pa3⟩, ⟨pb1, pb2, pb3⟩, ⟨pc1, pc2, pc3⟩, ⟨pd1, pd2, pd3⟩) := rdH.rd (SrR.stays _ _) hrg3
  obtain ⟨g4, hxg4, hrg4, hS1⟩ := hS.freeze (A := streeR U (qi, qk, qt, qx, ⟨qa1, qa2, qa3⟩, ⟨qb1, qb2, qb3⟩, ⟨qc1, qc2, qc3⟩, ⟨qd1, qd2, qd3⟩)) (by (repeat (first | exact At.here | apply At.there)))
  clear hS
  have hS := hS1
  clear hS1
  have hxg4 : Frz g3 g4 := hxg4.1
  have hQ4 : SrR g4 U (qi, qk, qt, qx, ⟨qa1, qa2, qa3⟩, ⟨qb1, qb2, qb3⟩, ⟨qc1, qc2, qc3⟩, ⟨qd1, qd2, qd3⟩) := rdH.rd (SrR.stays _ _) hrg4
  have hP4 := hP3.frz hxg4
  have hN4 := hN2.frz (hxg3.trans hxg4)
  have hO4 := hO2.frz (hxg3.trans hxg4)
  replace hS : St ⟨g4, w0⟩ _ w := hS
  have hss := fun w0 h1 h2 => same9_any (SizeOf.sizeOf T + 1) T T (pi, pk, pt, px, ⟨pa1, pa2, pa3⟩, ⟨pb1, pb2, pb3⟩, ⟨pc1, pc2, pc3⟩, ⟨pd1, pd2, pd3⟩) (pi, pk, pt, px, ⟨pa1, pa2, pa3⟩, ⟨pb1, pb2, pb3⟩, ⟨pc1, pc2, pc3⟩, ⟨pd1, pd2, pd3⟩) w0 (by omega) hsf0 hsf0 h1 h2
  rw [samS_self] at hss
  by_cases h0 : C = 0
  · by_cases h1 : C' = 0
    · subst h0 h1
      have hiff := hok rfl rfl
      have hst := fun w0 h1 h2 => same9_any (SizeOf.sizeOf T + 1) T U (pi, pk, pt, px, ⟨pa1, pa2, pa3⟩, ⟨pb1, pb2, pb3⟩, ⟨pc1, pc2, pc3⟩, ⟨pd1, pd2, pd3⟩) (qi, qk, qt, qx, ⟨qa1, qa2, qa3⟩, ⟨qb1, qb2, qb3⟩, ⟨qc1, qc2, qc3⟩, ⟨qd1, qd2, qd3⟩) w0 (by omega) hsf0 hsf1 h1 h2
      refine sg hk (g_callO hk (hf := by kernel_rfl) (hc := hck _ (hS.rdTr hN4)) (h := ?_)); clear hk a; rintro _ w ⟨rfl, hS1⟩ a hk; replace hS := hS.call0 hS1; clear hS1
      (repeat' (first | (show wpListIn _ _ _ _ _ (_ :: _) _ _; first | (refine wx1 ?_; clear hk a; intro a hk) | (refine wx2 ?_ ?_ <;> (intro hp; clear hk a; intro a hk)) | (refine wx3 ?_; clear hk hS a; intro w b hS a hk) | (refine wx4 ?_; clear hk hS a; intro w hS a hk) | (refine wx5 ?_; clear hk hS a; intro w v hS a hk) | fail) | refine wx0 ?_ | (refine s_end hk ?_; clear hk a; intro a hk) | fail))
      refine sg hk (g_callO hk (hf := by kernel_rfl) (hc := hcl _ (hS.rdTr hO4)) (h := ?_)); clear hk a; rintro _ w ⟨rfl, hS1⟩ a hk; replace hS := hS.call0 hS1; clear hS1
      (repeat' (first | (show wpListIn _ _ _ _ _ (_ :: _) _ _; first | (refine wx1 ?_; clear hk a; intro a hk) | (refine wx2 ?_ ?_ <;> (intro hp; clear hk a; intro a hk)) | (refine wx3 ?_; clear hk hS a; intro w b hS a hk) | (refine wx4 ?_; clear hk hS a; intro w hS a hk) | (refine wx5 ?_; clear hk hS a; intro w v hS a hk) | fail) | refine wx0 ?_ | (refine s_end hk ?_; clear hk a; intro a hk) | fail))
      have hsT := fun w0 h1 h2 => show_any false (SizeOf.sizeOf T + 1) T (pi, pk, pt, px, ⟨pa1, pa2, pa3⟩, ⟨pb1, pb2, pb3⟩, ⟨pc1, pc2, pc3⟩, ⟨pd1, pd2, pd3⟩) w0 (by omega) hm01 (by omega) h1 h2
      have hsU := fun w0 h1 h2 => show_any false (SizeOf.sizeOf U + 1) U (qi, qk, qt, qx, ⟨qa1, qa2, qa3⟩, ⟨qb1, qb2, qb3⟩, ⟨qc1, qc2, qc3⟩, ⟨qd1, qd2, qd3⟩) w0 (by omega) hm11 (by omega) h1 h2
      generalize showT false T = X at *
      generalize showT false U = Y at *
      cases hs : samS T U with
      | true =>
        rw [hs] at hst hiff
        have hXY := hiff.2 rfl
        refine wp_drawn 9 mixed (by kernel_rfl) hk hS ?_; clear hk hS a
        (repeat' (first | (show ObxE _ _ _ _ _ _ _ _ _ (_ :: _) _ _ _; first | refine ox1 ?_ | (refine ox2 ?_ ?_ <;> intro hp) | fail) | fail))
        refine' obe_val (fun us a w hk hd hS => ?_) ?_; rotate_left; focus (have hk := Kn.vw hk (by repeat (first | exact VW.nil | apply VW.val rfl | apply VW.base rfl rfl | apply VW.res rfl | apply VW.upd rfl | apply VW.cpy rfl | apply VW.dep rfl | apply VW.fn rfl | apply VW.lnd rfl | apply VW.tak rfl)); exact g_callO hk (hf := by kernel_rfl) (hc := hsT _ (hS.rdSr hP4) (ht.mono hS.below)) (h := fun _ _ h => h))
        (repeat' (first | (show ObxE _ _ _ _ _ _ _ _ _ (_ :: _) _ _ _; first | refine ox1 ?_ | (refine ox2 ?_ ?_ <;> intro hp) | fail) | fail))
        refine' obe_val (fun us a w hk hd hS => ?_) ?_; rotate_left; focus (have hk := Kn.vw hk (by repeat (first | exact VW.nil | apply VW.val rfl | apply VW.base rfl rfl | apply VW.res rfl | apply VW.upd rfl | apply VW.cpy rfl | apply VW.dep rfl | apply VW.fn rfl | apply VW.lnd rfl | apply VW.tak rfl)); exact g_callO hk (hf := by kernel_rfl) (hc := hsU _ (hS.rdSr hQ4) (ht.mono hS.below)) (h := fun _ _ h => h))
        (repeat' (first | (show ObxE _ _ _ _ _ _ _ _ _ (_ :: _) _ _ _; first | refine ox1 ?_ | (refine ox2 ?_ ?_ <;> intro hp) | fail) | fail))
        refine' obe_val (fun us a w hk hd hS => ?_) ?_; rotate_left; focus (have hk := Kn.vw hk (by repeat (first | exact VW.nil | apply VW.val rfl | apply VW.base rfl rfl | apply VW.res rfl | apply VW.upd rfl | apply VW.cpy rfl | apply VW.dep rfl | apply VW.fn rfl | apply VW.lnd rfl | apply VW.tak rfl)); exact g_callO hk (hf := by kernel_rfl) (hc := hst _ (hS.rdSr hP4) (hS.rdSr hQ4)) (h := fun _ _ h => h))
        (repeat' (first | (show ObxE _ _ _ _ _ _ _ _ _ (_ :: _) _ _ _; first | refine ox1 ?_ | (refine ox2 ?_ ?_ <;> intro hp) | fail) | fail))
        refine obe_nil ⟨rfl, ?_⟩; intro us a w hk hS
        (repeat' (first | (show wpListIn _ _ _ _ _ (_ :: _) _ _; first | (refine wx1 ?_; clear hk a; intro a hk) | (refine wx2 ?_ ?_ <;> (intro hp; clear hk a; intro a hk)) | (refine wx3 ?_; clear hk hS a; intro w b hS a hk) | (refine wx4 ?_; clear hk hS a; intro w hS a hk) | (refine wx5 ?_; clear hk hS a; intro w v hS a hk) | fail) | refine wx0 ?_ | (refine s_end hk ?_; clear hk a; intro a hk) | fail))
        exact done1 hk (h := ⟨rfl, hS.flat⟩)
      | false =>
        rw [hs] at hst hiff
        have hXY : ¬ X = Y := fun e => by have := hiff.1 e; cases this
        refine wp_drawn 9 mixed (by kernel_rfl) hk hS ?_; clear hk hS a
        (repeat' (first | (show ObxE _ _ _ _ _ _ _ _ _ (_ :: _) _ _ _; first | refine ox1 ?_ | (refine ox2 ?_ ?_ <;> intro hp) | fail) | fail))
        refine' obe_val (fun us a w hk hd hS => ?_) ?_; rotate_left; focus (have hk := Kn.vw hk (by repeat (first | exact VW.nil | apply VW.val rfl | apply VW.base rfl rfl | apply VW.res rfl | apply VW.upd rfl | apply VW.cpy rfl | apply VW.dep rfl | apply VW.fn rfl | apply VW.lnd rfl | apply VW.tak rfl)); exact g_callO hk (hf := by kernel_rfl) (hc := hsT _ (hS.rdSr hP4) (ht.mono hS.below)) (h := fun _ _ h => h))
        (repeat' (first | (show ObxE _ _ _ _ _ _ _ _ _ (_ :: _) _ _ _; first | refine ox1 ?_ | (refine ox2 ?_ ?_ <;> intro hp) | fail) | fail))
        refine' obe_val (fun us a w hk hd hS => ?_) ?_; rotate_left; focus (have hk := Kn.vw hk (by repeat (first | exact VW.nil | apply VW.val rfl | apply VW.base rfl rfl | apply VW.res rfl | apply VW.upd rfl | apply VW.cpy rfl | apply VW.dep rfl | apply VW.fn rfl | apply VW.lnd rfl | apply VW.tak rfl)); exact g_callO hk (hf := by kernel_rfl) (hc := hsU _ (hS.rdSr hQ4) (ht.mono hS.below)) (h := fun _ _ h => h))
        (repeat' (first | (show ObxE _ _ _ _ _ _ _ _ _ (_ :: _) _ _ _; first | refine ox1 ?_ | (refine ox2 ?_ ?_ <;> intro hp) | fail) | fail))
        refine' obe_val (fun us a w hk hd hS => ?_) ?_; rotate_left; focus (have hk := Kn.vw hk (by repeat (first | exact VW.nil | apply VW.val rfl | apply VW.base rfl rfl | apply VW.res rfl | apply VW.upd rfl | apply VW.cpy rfl | apply VW.dep rfl | apply VW.fn rfl | apply VW.lnd rfl | apply VW.tak rfl)); exact g_callO hk (hf := by kernel_rfl) (hc := hst _ (hS.rdSr hP4) (hS.rdSr hQ4)) (h := fun _ _ h => h))
        (repeat' (first | (show ObxE _ _ _ _ _ _ _ _ _ (_ :: _) _ _ _; first | refine ox1 ?_ | (refine ox2 ?_ ?_ <;> intro hp) | fail) | fail))
        refine obe_nil ⟨rfl, ?_⟩; intro us a w hk hS
        (repeat' (first | (show wpListIn _ _ _ _ _ (_ :: _) _ _; first | (refine wx1 ?_; clear hk a; intro a hk) | (refine wx2 ?_ ?_ <;> (intro hp; clear hk a; intro a hk)) | (refine wx3 ?_; clear hk hS a; intro w b hS a hk) | (refine wx4 ?_; clear hk hS a; intro w hS a hk) | (refine wx5 ?_; clear hk hS a; intro w v hS a hk) | fail) | refine wx0 ?_ | (refine s_end hk ?_; clear hk a; intro a hk) | fail))
        exact done1 hk (h := ⟨rfl, hS.flat⟩)
    · subst h0
      refine sg hk (g_callO hk (hf := by kernel_rfl) (hc := hck _ (hS.rdTr hN4)) (h := ?_)); clear hk a; rintro _ w ⟨rfl, hS1⟩ a hk; replace hS := hS.call0 hS1; clear hS1
      (repeat' (first | (show wpListIn _ _ _ _ _ (_ :: _) _ _; first | (refine wx1 ?_; clear hk a; intro a hk) | (refine wx2 ?_ ?_ <;> (intro hp; clear hk a; intro a hk)) | (refine wx3 ?_; clear hk hS a; intro w b hS a hk) | (refine wx4 ?_; clear hk hS a; intro w hS a hk) | (refine wx5 ?_; clear hk hS a; intro w v hS a hk) | fail) | refine wx0 ?_ | (refine s_end hk ?_; clear hk a; intro a hk) | fail))
      refine sg hk (g_callO hk (hf := by kernel_rfl) (hc := hcl _ (hS.rdTr hO4)) (h := ?_)); clear hk a; rintro _ w ⟨rfl, hS1⟩ a hk; replace hS := hS.call0 hS1; clear hS1
      (repeat' (first | (show wpListIn _ _ _ _ _ (_ :: _) _ _; first | (refine wx1 ?_; clear hk a; intro a hk) | (refine wx2 ?_ ?_ <;> (intro hp; clear hk a; intro a hk)) | (refine wx3 ?_; clear hk hS a; intro w b hS a hk) | (refine wx4 ?_; clear hk hS a; intro w hS a hk) | (refine wx5 ?_; clear hk hS a; intro w v hS a hk) | fail) | refine wx0 ?_ | (refine s_end hk ?_; clear hk a; intro a hk) | fail))
      refine sg hk (g_callO hk (hf := by kernel_rfl) (hc := hss _ (hS.rdSr hP4) (hS.rdSr hP4)) (h := ?_)); clear hk a; rintro _ w ⟨rfl, hS1⟩ a hk; replace hS := hS.call0 hS1; clear hS1
      (repeat' (first | (show wpListIn _ _ _ _ _ (_ :: _) _ _; first | (refine wx1 ?_; clear hk a; intro a hk) | (refine wx2 ?_ ?_ <;> (intro hp; clear hk a; intro a hk)) | (refine wx3 ?_; clear hk hS a; intro w b hS a hk) | (refine wx4 ?_; clear hk hS a; intro w hS a hk) | (refine wx5 ?_; clear hk hS a; intro w v hS a hk) | fail) | refine wx0 ?_ | (refine s_end hk ?_; clear hk a; intro a hk) | fail))
      exact done1 hk (h := ⟨rfl, hS.flat⟩)
  · refine sg hk (g_callO hk (hf := by kernel_rfl) (hc := hck _ (hS.rdTr hN4)) (h := ?_)); clear hk a; rintro _ w ⟨rfl, hS1⟩ a hk; replace hS := hS.call0 hS1; clear hS1
    (repeat' (first | (show wpListIn _ _ _ _ _ (_ :: _) _ _; first | (refine wx1 ?_; clear hk a; intro a hk) | (refine wx2 ?_ ?_ <;> (intro hp; clear hk a; intro a hk)) | (refine wx3 ?_; clear hk hS a; intro w b hS a hk) | (refine wx4 ?_; clear hk hS a; intro w hS a hk) | (refine wx5 ?_; clear hk hS a; intro w v hS a hk) | fail) | refine wx0 ?_ | (refine s_end hk ?_; clear hk a; intro a hk) | fail))
    refine sg hk (g_callO hk (hf := by kernel_rfl) (hc := hss _ (hS.rdSr hP4) (hS.rdSr hP4)) (h := ?_)); clear hk a; rintro _ w ⟨rfl, hS1⟩ a hk; replace hS := hS.call0 hS1; clear hS1
    (repeat' (first | (show wpListIn _ _ _ _ _ (_ :: _) _ _; first | (refine wx1 ?_; clear hk a; intro a hk) | (refine wx2 ?_ ?_ <;> (intro hp; clear hk a; intro a hk)) | (refine wx3 ?_; clear hk hS a; intro w b hS a hk) | (refine wx4 ?_; clear hk hS a; intro w hS a hk) | (refine wx5 ?_; clear hk hS a; intro w v hS a hk) | fail) | refine wx0 ?_ | (refine s_end hk ?_; clear hk a; intro a hk) | fail))
    exact done1 hk (h := ⟨rfl, hS.flat⟩)
end Go.Proofs.YtkcjkbnbblpomaaGreatDoor
namespace Go.Proofs.YtkcjkbnbblpomaaGreatDoor
open Go.RowKit
set_option maxRecDepth 100000
attribute [local irreducible] Go.Code.wpIn Go.wpListIn Go.Calls Gives Go.Exit.then Go.Exit.inBlock Done ObxE

theorem laid_StillShows {W : World} (hL : laidMetH Tryz.prog Rows.stillShowsRow.laid W) : TabW W := by
  rw [MakeChecks.laidMetH_plain _ _ _ (by kernel_rfl)] at hL
  exact laid9 rfl hL
theorem walk_StillShows (W : World) (vs : List Value) (hL : laidMetH Tryz.prog Rows.stillShowsRow.laid W) (h : Args Tryz.prog W [22, 22] vs) : Calls Tryz.prog 6 vs.toArray W (Ret fun v w => v = .bool true ∧ St W [] w) := by
  obtain ⟨v, u, rfl, ha, hb⟩ := args2 h
  obtain ⟨F, hv, hR⟩ := arg_flats ha
  obtain ⟨G, hu, hQ⟩ := arg_flats hb
  exact stillshows_any F v G u W hv hR hu hQ (laid_StillShows hL)
end Go.Proofs.YtkcjkbnbblpomaaGreatDoor
