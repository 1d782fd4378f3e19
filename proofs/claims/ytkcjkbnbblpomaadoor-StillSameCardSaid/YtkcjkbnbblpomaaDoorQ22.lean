/- Layer 9: the laws: trees are the same if all but their numbers is. Layer 7: flat nodes, as the form reads them. Layer 9: the table of powers of ten, as the form lays it. Layer 9: StillSame from the form's reading. -/
import Derived.Test.YtkcjkbnbblpomaaDoorQ19
import Derived.Test.YtkcjkbnbblpomaaDoorQ20
import Derived.Test.YtkcjkbnbblpomaaDoorQ21
import Derived.Test.YtkcjkbnbblpomaaDoorQ14
import Derived.Test.YtkcjkbnbblpomaaDoorQ11
import Derived.Test.YtkcjkbnbblpomaaDoorQ05
import Derived.Test.YtkcjkbnbblpomaaDoorQ16
import Derived.Test.YtkcjkbnbblpomaaDoorRows
import Derived.Lay
import Derived.SevenTiedAt
set_option linter.all false
namespace Go.Proofs.YtkcjkbnbblpomaaDoor
open Go.RowKit
set_option maxRecDepth 100000
attribute [local irreducible] Go.Code.wpIn Go.wpListIn Go.Calls Gives Go.Exit.then Go.Exit.inBlock Done ObxE

theorem frm_risD : ∀ (k : Nat) (t : Tree) (n : Int), SizeOf.sizeOf t < k → SRis (frm t n)
  | 0, _, _, h => by omega
  | k + 1, .mk ki tag key text cl al sl o kids, n, h => by
    rw [frm]
    refine .mk (snap_snap nmS al) (snap_snap nmI sl) fun x hx => ?_
    obtain ⟨t, ht, m, rfl⟩ := frmL_mem hx
    exact frm_risD k t m (by have := kid_lt (k := ki) (tag := tag) (key := key) (text := text) (cl := cl) (at_ := al) (st := sl) (o := o) ht; omega)
set_option maxHeartbeats 8000000 in
theorem stillsame_any (F0 : List FlH) (v0 : Value) (F1 : List FlH) (v1 : Value) (w0 : World) (hv0 : SlT F0 v0 w0) (hR0 : ∀ h ∈ F0, FlR w0 h) (hv1 : SlT F1 v1 w0) (hR1 : ∀ h ∈ F1, FlR w0 h) (ht : TabW w0) : Calls Tryd.prog 3 #[v0, v1] w0 (Ret fun v w => v = .bool true ∧ St w0 [] w) := by
  refine enter Tryd.func3 rfl Tryd.ntmps3 rfl (fun a hk => ?_); have hS := St.refl w0
  (repeat' (first | (show wpListIn _ _ _ _ _ (_ :: _) _ _; first | (refine wx1 ?_; clear hk a; intro a hk) | (refine wx2 ?_ ?_ <;> (intro hp; clear hk a; intro a hk)) | (refine wx3 ?_; clear hk hS a; intro w b hS a hk) | (refine wx4 ?_; clear hk hS a; intro w hS a hk) | (refine wx5 ?_; clear hk hS a; intro w v hS a hk) | fail) | refine wx0 ?_ | (refine s_end hk ?_; clear hk a; intro a hk) | fail))
  refine sg hk (g_callO hk (hf := by kernel_rfl) (hc := awake09_any _ (ht.mono hS.below)) (h := ?_)); clear hk a; rintro _ w ⟨rfl, hS1⟩ a hk; replace hS := hS.call0 hS1; clear hS1
  (repeat' (first | (show wpListIn _ _ _ _ _ (_ :: _) _ _; first | (refine wx1 ?_; clear hk a; intro a hk) | (refine wx2 ?_ ?_ <;> (intro hp; clear hk a; intro a hk)) | (refine wx3 ?_; clear hk hS a; intro w b hS a hk) | (refine wx4 ?_; clear hk hS a; intro w hS a hk) | (refine wx5 ?_; clear hk hS a; intro w v hS a hk) | fail) | refine wx0 ?_ | (refine s_end hk ?_; clear hk a; intro a hk) | fail))
  have hw0 : Frz w0 w0 := Frz.refl _
  have hv0' := hv0
  refine sg hk (g_callO hk (hf := by kernel_rfl) (hc := tree07_any F0 v0 15 (by omega) (by omega) _ (hS.rdT hv0') (fun h hh => (hR0 h hh).frz (hw0.trans hS.frz))) (h := ?_)); clear hk a; rintro vr w ⟨t0, hs0, hc0, hS1⟩ a hk; replace hS := hS.call hS1; clear hS1
  rw [List.cons_append] at hS
  obtain ⟨hd0, rfl, hS1⟩ := St.tree hS .here
  clear hS
  have hS := hS1
  clear hS1
  have hf0 := (hs0.fit (by omega)).fits
  refine sg hk (g_callO hk (hf := by kernel_rfl) (hc := from9_any (SizeOf.sizeOf t0 + 1) t0 hd0 1 _ (by omega) hf0 (by omega) (by omega) (hS.trR (by (repeat (first | exact At.here | apply At.there))))) (h := ?_)); clear hk a; rintro vr w ⟨⟨pi, pk, pt, px, ⟨pa1, pa2, pa3⟩, ⟨pb1, pb2, pb3⟩, ⟨pc1, pc2, pc3⟩, ⟨pd1, pd2, pd3⟩⟩, rfl, hS1⟩ a hk; replace hS := hS.call hS1; clear hS1
  rw [List.cons_append] at hS
  have hsf0 : SFits (frm t0 1) := frm_sfits hf0
  have hri0 : SRis (frm t0 1) := frm_risD _ _ _ (Nat.lt_succ_self _)
  generalize hTT0 : frm t0 1 = S at *
  (repeat' (first | (show wpListIn _ _ _ _ _ (_ :: _) _ _; first | (refine wx1 ?_; clear hk a; intro a hk) | (refine wx2 ?_ ?_ <;> (intro hp; clear hk a; intro a hk)) | (refine wx3 ?_; clear hk hS a; intro w b hS a hk) | (refine wx4 ?_; clear hk hS a; intro w hS a hk) | (refine wx5 ?_; clear hk hS a; intro w v hS a hk) | fail) | refine wx0 ?_ | (refine s_end hk ?_; clear hk a; intro a hk) | fail))
  obtain ⟨g1, hxg1, hrg1, hS1⟩ := hS.freeze (A := streeR S (pi, pk, pt, px, ⟨pa1, pa2, pa3⟩, ⟨pb1, pb2, pb3⟩, ⟨pc1, pc2, pc3⟩, ⟨pd1, pd2, pd3⟩)) (by (repeat (first | exact At.here | apply At.there)))
  clear hS
  have hS := hS1
  clear hS1
  have hxg1 : Frz w0 g1 := hxg1.1
  have hP1 : SrR g1 S (pi, pk, pt, px, ⟨pa1, pa2, pa3⟩, ⟨pb1, pb2, pb3⟩, ⟨pc1, pc2, pc3⟩, ⟨pd1, pd2, pd3⟩) := rdH.rd (SrR.stays _ _) hrg1
  replace hS : St ⟨g1, w0⟩ _ w := hS
  have hv1'' := hv1.frz hxg1
  refine sg hk (g_callO hk (hf := by kernel_rfl) (hc := tree07_any F1 v1 15 (by omega) (by omega) _ (hS.rdT hv1'') (fun h hh => (hR1 h hh).frz (hxg1.trans hS.frz))) (h := ?_)); clear hk a; rintro vr w ⟨t1, hs1, hc1, hS1⟩ a hk; replace hS := hS.call hS1; clear hS1
  rw [List.cons_append] at hS
  obtain ⟨hd1, rfl, hS1⟩ := St.tree hS .here
  clear hS
  have hS := hS1
  clear hS1
  have hf1 := (hs1.fit (by omega)).fits
  refine sg hk (g_callO hk (hf := by kernel_rfl) (hc := from9_any (SizeOf.sizeOf t1 + 1) t1 hd1 5 _ (by omega) hf1 (by omega) (by omega) (hS.trR (by (repeat (first | exact At.here | apply At.there))))) (h := ?_)); clear hk a; rintro vr w ⟨⟨qi, qk, qt, qx, ⟨qa1, qa2, qa3⟩, ⟨qb1, qb2, qb3⟩, ⟨qc1, qc2, qc3⟩, ⟨qd1, qd2, qd3⟩⟩, rfl, hS1⟩ a hk; replace hS := hS.call hS1; clear hS1
  rw [List.cons_append] at hS
  have hsf1 : SFits (frm t1 5) := frm_sfits hf1
  have hri1 : SRis (frm t1 5) := frm_risD _ _ _ (Nat.lt_succ_self _)
  generalize hTT1 : frm t1 5 = T at *
  (repeat' (first | (show wpListIn _ _ _ _ _ (_ :: _) _ _; first | (refine wx1 ?_; clear hk a; intro a hk) | (refine wx2 ?_ ?_ <;> (intro hp; clear hk a; intro a hk)) | (refine wx3 ?_; clear hk hS a; intro w b hS a hk) | (refine wx4 ?_; clear hk hS a; intro w hS a hk) | (refine wx5 ?_; clear hk hS a; intro w v hS a hk) | fail) | refine wx0 ?_ | (refine s_end hk ?_; clear hk a; intro a hk) | fail))
  obtain ⟨g2, hxg2, hrg2, hS1⟩ := hS.freeze (A := streeR T (qi, qk, qt, qx, ⟨qa1, qa2, qa3⟩, ⟨qb1, qb2, qb3⟩, ⟨qc1, qc2, qc3⟩, ⟨qd1, qd2, qd3⟩)) (by (repeat (first | exact At.here | apply At.there)))
  clear hS
  have hS := hS1
  clear hS1
  have hxg2 : Frz g1 g2 := hxg2.1
  have hQ2 : SrR g2 T (qi, qk, qt, qx, ⟨qa1, qa2, qa3⟩, ⟨qb1, qb2, qb3⟩, ⟨qc1, qc2, qc3⟩, ⟨qd1, qd2, qd3⟩) := rdH.rd (SrR.stays _ _) hrg2
  have hP2 := hP1.frz hxg2
  replace hS : St ⟨g2, w0⟩ _ w := hS
  have hst := fun w0 h1 h2 => same9_any (SizeOf.sizeOf S + 1) S T (pi, pk, pt, px, ⟨pa1, pa2, pa3⟩, ⟨pb1, pb2, pb3⟩, ⟨pc1, pc2, pc3⟩, ⟨pd1, pd2, pd3⟩) (qi, qk, qt, qx, ⟨qa1, qa2, qa3⟩, ⟨qb1, qb2, qb3⟩, ⟨qc1, qc2, qc3⟩, ⟨qd1, qd2, qd3⟩) w0 (by omega) hsf0 hsf1 h1 h2
  have hsr := fun w0 hx hy h1 h2 => sameR9_any (SizeOf.sizeOf S + 1) S T hx hy w0 (by omega) hsf0 hsf1 h1 h2
  have hss := fun w0 h1 h2 => same9_any (SizeOf.sizeOf S + 1) S S (pi, pk, pt, px, ⟨pa1, pa2, pa3⟩, ⟨pb1, pb2, pb3⟩, ⟨pc1, pc2, pc3⟩, ⟨pd1, pd2, pd3⟩) (pi, pk, pt, px, ⟨pa1, pa2, pa3⟩, ⟨pb1, pb2, pb3⟩, ⟨pc1, pc2, pc3⟩, ⟨pd1, pd2, pd3⟩) w0 (by omega) hsf0 hsf0 h1 h2
  rw [samS_self] at hss
  rw [same_eqS hri0 hri1] at hst
  cases hb : eqS S T with
  | true =>
    rw [hb] at hst hsr
    refine wp_drawn 14 mixed (by kernel_rfl) hk hS ?_; clear hk hS a
    (repeat' (first | (show ObxE _ _ _ _ _ _ _ _ _ (_ :: _) _ _ _; first | refine ox1 ?_ | (refine ox2 ?_ ?_ <;> intro hp) | fail) | fail))
    refine' obe_val (fun us a w hk hd hS => ?_) ?_; rotate_left; focus (have hk := Kn.vw hk (by repeat (first | exact VW.nil | apply VW.val rfl | apply VW.base rfl rfl | apply VW.res rfl | apply VW.upd rfl | apply VW.cpy rfl | apply VW.dep rfl | apply VW.fn rfl | apply VW.lnd rfl | apply VW.tak rfl)); exact g_callO hk (hf := by kernel_rfl) (hc := hst _ (hS.rdSr hP2) (hS.rdSr hQ2)) (h := fun _ _ h => h))
    (repeat' (first | (show ObxE _ _ _ _ _ _ _ _ _ (_ :: _) _ _ _; first | refine ox1 ?_ | (refine ox2 ?_ ?_ <;> intro hp) | fail) | fail))
    refine' obe_res (fun us a w hk hd hS => ?_) ?_; rotate_left; focus (have hk := Kn.vw hk (by repeat (first | exact VW.nil | apply VW.val rfl | apply VW.base rfl rfl | apply VW.res rfl | apply VW.upd rfl | apply VW.cpy rfl | apply VW.dep rfl | apply VW.fn rfl | apply VW.lnd rfl | apply VW.tak rfl)); exact g_callO hk (hf := by kernel_rfl) (hc := told9_any (SizeOf.sizeOf S + 1) S (pi, pk, pt, px, ⟨pa1, pa2, pa3⟩, ⟨pb1, pb2, pb3⟩, ⟨pc1, pc2, pc3⟩, ⟨pd1, pd2, pd3⟩) _ (by omega) hsf0 (hS.rdSr hP2)) (h := fun _ _ h => h))
    (repeat' (first | (show ObxE _ _ _ _ _ _ _ _ _ (_ :: _) _ _ _; first | refine ox1 ?_ | (refine ox2 ?_ ?_ <;> intro hp) | fail) | fail))
    refine' obe_res (fun us a w hk hd hS => ?_) ?_; rotate_left; focus (have hk := Kn.vw hk (by repeat (first | exact VW.nil | apply VW.val rfl | apply VW.base rfl rfl | apply VW.res rfl | apply VW.upd rfl | apply VW.cpy rfl | apply VW.dep rfl | apply VW.fn rfl | apply VW.lnd rfl | apply VW.tak rfl)); exact g_callO hk (hf := by kernel_rfl) (hc := told9_any (SizeOf.sizeOf T + 1) T (qi, qk, qt, qx, ⟨qa1, qa2, qa3⟩, ⟨qb1, qb2, qb3⟩, ⟨qc1, qc2, qc3⟩, ⟨qd1, qd2, qd3⟩) _ (by omega) hsf1 (hS.rdSr hQ2)) (h := fun _ _ h => h))
    refine' obe_val (fun us a w hk hd hS => ?_) ?_; rotate_left; focus (have hk := Kn.vw hk (by repeat (first | exact VW.nil | apply VW.val rfl | apply VW.base rfl rfl | apply VW.res rfl | apply VW.upd rfl | apply VW.cpy rfl | apply VW.dep rfl | apply VW.fn rfl | apply VW.lnd rfl | apply VW.tak rfl)); obtain ⟨hx, ex, hrx⟩ := streeH.rd hd.1; obtain ⟨hy, ey, hry⟩ := streeH.rd hd.2.1; simp only [Nat.zero_add, Nat.reduceAdd] at hk ex ey; rw [ex, ey] at hk; exact g_callO hk (hf := by kernel_rfl) (hc := hsr _ hx hy hrx hry) (h := fun _ _ h => h))
    (repeat' (first | (show ObxE _ _ _ _ _ _ _ _ _ (_ :: _) _ _ _; first | refine ox1 ?_ | (refine ox2 ?_ ?_ <;> intro hp) | fail) | fail))
    refine' obe_val (fun us a w hk hd hS => ?_) ?_; rotate_left; focus (have hk := Kn.vw hk (by repeat (first | exact VW.nil | apply VW.val rfl | apply VW.base rfl rfl | apply VW.res rfl | apply VW.upd rfl | apply VW.cpy rfl | apply VW.dep rfl | apply VW.fn rfl | apply VW.lnd rfl | apply VW.tak rfl)); exact g_callO hk (hf := by kernel_rfl) (hc := hss _ (hS.rdSr hP2) (hS.rdSr hP2)) (h := fun _ _ h => h))
    (repeat' (first | (show ObxE _ _ _ _ _ _ _ _ _ (_ :: _) _ _ _; first | refine ox1 ?_ | (refine ox2 ?_ ?_ <;> intro hp) | fail) | fail))
    refine obe_nil ⟨rfl, ?_⟩; intro us a w hk hS
    (repeat' (first | (show wpListIn _ _ _ _ _ (_ :: _) _ _; first | (refine wx1 ?_; clear hk a; intro a hk) | (refine wx2 ?_ ?_ <;> (intro hp; clear hk a; intro a hk)) | (refine wx3 ?_; clear hk hS a; intro w b hS a hk) | (refine wx4 ?_; clear hk hS a; intro w hS a hk) | (refine wx5 ?_; clear hk hS a; intro w v hS a hk) | fail) | refine wx0 ?_ | (refine s_end hk ?_; clear hk a; intro a hk) | fail))
    exact done1 hk (h := ⟨rfl, hS.flat⟩)
  | false =>
    rw [hb] at hst hsr
    refine wp_drawn 14 mixed (by kernel_rfl) hk hS ?_; clear hk hS a
    (repeat' (first | (show ObxE _ _ _ _ _ _ _ _ _ (_ :: _) _ _ _; first | refine ox1 ?_ | (refine ox2 ?_ ?_ <;> intro hp) | fail) | fail))
    refine' obe_val (fun us a w hk hd hS => ?_) ?_; rotate_left; focus (have hk := Kn.vw hk (by repeat (first | exact VW.nil | apply VW.val rfl | apply VW.base rfl rfl | apply VW.res rfl | apply VW.upd rfl | apply VW.cpy rfl | apply VW.dep rfl | apply VW.fn rfl | apply VW.lnd rfl | apply VW.tak rfl)); exact g_callO hk (hf := by kernel_rfl) (hc := hst _ (hS.rdSr hP2) (hS.rdSr hQ2)) (h := fun _ _ h => h))
    (repeat' (first | (show ObxE _ _ _ _ _ _ _ _ _ (_ :: _) _ _ _; first | refine ox1 ?_ | (refine ox2 ?_ ?_ <;> intro hp) | fail) | fail))
    refine' obe_res (fun us a w hk hd hS => ?_) ?_; rotate_left; focus (have hk := Kn.vw hk (by repeat (first | exact VW.nil | apply VW.val rfl | apply VW.base rfl rfl | apply VW.res rfl | apply VW.upd rfl | apply VW.cpy rfl | apply VW.dep rfl | apply VW.fn rfl | apply VW.lnd rfl | apply VW.tak rfl)); exact g_callO hk (hf := by kernel_rfl) (hc := told9_any (SizeOf.sizeOf S + 1) S (pi, pk, pt, px, ⟨pa1, pa2, pa3⟩, ⟨pb1, pb2, pb3⟩, ⟨pc1, pc2, pc3⟩, ⟨pd1, pd2, pd3⟩) _ (by omega) hsf0 (hS.rdSr hP2)) (h := fun _ _ h => h))
    (repeat' (first | (show ObxE _ _ _ _ _ _ _ _ _ (_ :: _) _ _ _; first | refine ox1 ?_ | (refine ox2 ?_ ?_ <;> intro hp) | fail) | fail))
    refine' obe_res (fun us a w hk hd hS => ?_) ?_; rotate_left; focus (have hk := Kn.vw hk (by repeat (first | exact VW.nil | apply VW.val rfl | apply VW.base rfl rfl | apply VW.res rfl | apply VW.upd rfl | apply VW.cpy rfl | apply VW.dep rfl | apply VW.fn rfl | apply VW.lnd rfl | apply VW.tak rfl)); exact g_callO hk (hf := by kernel_rfl) (hc := told9_any (SizeOf.sizeOf T + 1) T (qi, qk, qt, qx, ⟨qa1, qa2, qa3⟩, ⟨qb1, qb2, qb3⟩, ⟨qc1, qc2, qc3⟩, ⟨qd1, qd2, qd3⟩) _ (by omega) hsf1 (hS.rdSr hQ2)) (h := fun _ _ h => h))
    refine' obe_val (fun us a w hk hd hS => ?_) ?_; rotate_left; focus (have hk := Kn.vw hk (by repeat (first | exact VW.nil | apply VW.val rfl | apply VW.base rfl rfl | apply VW.res rfl | apply VW.upd rfl | apply VW.cpy rfl | apply VW.dep rfl | apply VW.fn rfl | apply VW.lnd rfl | apply VW.tak rfl)); obtain ⟨hx, ex, hrx⟩ := streeH.rd hd.1; obtain ⟨hy, ey, hry⟩ := streeH.rd hd.2.1; simp only [Nat.zero_add, Nat.reduceAdd] at hk ex ey; rw [ex, ey] at hk; exact g_callO hk (hf := by kernel_rfl) (hc := hsr _ hx hy hrx hry) (h := fun _ _ h => h))
    (repeat' (first | (show ObxE _ _ _ _ _ _ _ _ _ (_ :: _) _ _ _; first | refine ox1 ?_ | (refine ox2 ?_ ?_ <;> intro hp) | fail) | fail))
    refine' obe_val (fun us a w hk hd hS => ?_) ?_; rotate_left; focus (have hk := Kn.vw hk (by repeat (first | exact VW.nil | apply VW.val rfl | apply VW.base rfl rfl | apply VW.res rfl | apply VW.upd rfl | apply VW.cpy rfl | apply VW.dep rfl | apply VW.fn rfl | apply VW.lnd rfl | apply VW.tak rfl)); exact g_callO hk (hf := by kernel_rfl) (hc := hss _ (hS.rdSr hP2) (hS.rdSr hP2)) (h := fun _ _ h => h))
    (repeat' (first | (show ObxE _ _ _ _ _ _ _ _ _ (_ :: _) _ _ _; first | refine ox1 ?_ | (refine ox2 ?_ ?_ <;> intro hp) | fail) | fail))
    refine obe_nil ⟨rfl, ?_⟩; intro us a w hk hS
    (repeat' (first | (show wpListIn _ _ _ _ _ (_ :: _) _ _; first | (refine wx1 ?_; clear hk a; intro a hk) | (refine wx2 ?_ ?_ <;> (intro hp; clear hk a; intro a hk)) | (refine wx3 ?_; clear hk hS a; intro w b hS a hk) | (refine wx4 ?_; clear hk hS a; intro w hS a hk) | (refine wx5 ?_; clear hk hS a; intro w v hS a hk) | fail) | refine wx0 ?_ | (refine s_end hk ?_; clear hk a; intro a hk) | fail))
    exact done1 hk (h := ⟨rfl, hS.flat⟩)
end Go.Proofs.YtkcjkbnbblpomaaDoor
namespace Go.Proofs.YtkcjkbnbblpomaaDoor
open Go.RowKit
set_option maxRecDepth 100000
attribute [local irreducible] Go.Code.wpIn Go.wpListIn Go.Calls Gives Go.Exit.then Go.Exit.inBlock Done ObxE

theorem rdg_attr {W : World} {D : Nat} {us : List Value} (h : Rdg Tryd.prog W (D + 2) 64 us) : ∃ x : ByteArray × ByteArray, Enc.f x = us := by
  have hl := rdg_len Tryd.underlying64 h (zT rfl)
  obtain ⟨a, ha, _⟩ := rdg_str (sT rfl) (rdg_fld Tryd.underlying64 h (i := 0) rfl (zT rfl))
  obtain ⟨b, hb, _⟩ := rdg_str (sT rfl) (rdg_fld Tryd.underlying64 h (i := 1) rfl (zT rfl))
  match us, hl with
  | [u0, u1], _ =>
    simp at ha hb
    subst ha hb
    exact ⟨(a, b), rfl⟩
theorem rdg_pair {W : World} {D : Nat} {us : List Value} (h : Rdg Tryd.prog W (D + 2) 76 us) : ∃ x : ByteArray × Int, Enc.f x = us ∧ in64 x.2 := by
  have hl := rdg_len Tryd.underlying76 h (zT rfl)
  obtain ⟨a, ha, _⟩ := rdg_str (sT rfl) (rdg_fld Tryd.underlying76 h (i := 0) rfl (zT rfl))
  obtain ⟨b, hb, hr⟩ := rdg_int (iT rfl) (rdg_fld Tryd.underlying76 h (i := 1) rfl (zT rfl))
  match us, hl with
  | [u0, u1], _ =>
    simp at ha hb
    subst ha hb
    exact ⟨(a, b), rfl, hr⟩
theorem rdg_opts {W : World} {D : Nat} {us : List Value} (h : Rdg Tryd.prog W (D + 2) 37 us) : ∃ x : Opt, Enc.f x = us ∧ in64 x.1 ∧ in64 x.2.1 ∧ in64 x.2.2.1 ∧ in64 x.2.2.2.1 := by
  have hl := rdg_len Tryd.underlying37 h (zT rfl)
  obtain ⟨a, ha, r1⟩ := rdg_int (iT rfl) (rdg_fld Tryd.underlying37 h (i := 0) rfl (zT rfl))
  obtain ⟨b, hb, r2⟩ := rdg_int (iT rfl) (rdg_fld Tryd.underlying37 h (i := 1) rfl (zT rfl))
  obtain ⟨c, hc, r3⟩ := rdg_int (iT rfl) (rdg_fld Tryd.underlying37 h (i := 2) rfl (zT rfl))
  obtain ⟨d, hd, r4⟩ := rdg_int (iT rfl) (rdg_fld Tryd.underlying37 h (i := 3) rfl (zT rfl))
  obtain ⟨e, he⟩ := rdg_bool Tryd.underlying4 (rdg_fld Tryd.underlying37 h (i := 4) rfl (zT rfl))
  obtain ⟨f, hf⟩ := rdg_bool Tryd.underlying4 (rdg_fld Tryd.underlying37 h (i := 5) rfl (zT rfl))
  match us, hl with
  | [u0, u1, u2, u3, u4, u5], _ =>
    simp at ha hb hc hd he hf
    subst ha hb hc hd he hf
    exact ⟨(a, b, c, d, e, f), rfl, r1, r2, r3, r4⟩

theorem rdg_flat {W : World} {D : Nat} {us : List Value} (h : Rdg Tryd.prog W (D + 4) 67 us) : ∃ x : FlH, Enc.f x = us ∧ FlR W x := by
  have hl := rdg_len Tryd.underlying67 h (zT rfl)
  obtain ⟨a, h0, r1⟩ := rdg_int (iT rfl) (rdg_fld Tryd.underlying67 h (i := 0) rfl (zT rfl))
  obtain ⟨b, h1, r2⟩ := rdg_int (iT rfl) (rdg_fld Tryd.underlying67 h (i := 1) rfl (zT rfl))
  obtain ⟨c, h2, _⟩ := rdg_str (sT rfl) (rdg_fld Tryd.underlying67 h (i := 2) rfl (zT rfl))
  obtain ⟨d, h3, _⟩ := rdg_str (sT rfl) (rdg_fld Tryd.underlying67 h (i := 3) rfl (zT rfl))
  obtain ⟨e, h4, _⟩ := rdg_str (sT rfl) (rdg_fld Tryd.underlying67 h (i := 4) rfl (zT rfl))
  obtain ⟨v5, cl, h5, g5, _⟩ := SlT.of_rdg (α := ByteArray) (fun _ => True) (rdg_fld Tryd.underlying67 h (i := 5) rfl (zT rfl)) (eT rfl) (zT rfl) (fun us _ h => by obtain ⟨s, hs, _⟩ := rdg_str (sT rfl) h; exact ⟨s, hs.symm, trivial⟩)
  obtain ⟨v6, al, h6, g6, _⟩ := SlT.of_rdg (α := ByteArray × ByteArray) (fun _ => True) (rdg_fld Tryd.underlying67 h (i := 6) rfl (zT rfl)) (eT rfl) (zT rfl) (fun us _ h => by obtain ⟨s, hs⟩ := rdg_attr h; exact ⟨s, hs, trivial⟩)
  obtain ⟨v7, sl, h7, g7, g8⟩ := SlT.of_rdg (α := ByteArray × Int) (fun x => in64 x.2) (rdg_fld Tryd.underlying67 h (i := 7) rfl (zT rfl)) (eT rfl) (zT rfl) (fun us _ h => by obtain ⟨s, hs, h2⟩ := rdg_pair h; exact ⟨s, hs, h2⟩)
  obtain ⟨⟨q0, q1, q2, q3, q4, q5⟩, h8, s1, s2, s3, s4⟩ := rdg_opts (rdg_fld Tryd.underlying67 h (i := 8) rfl (zT rfl))
  match us, hl with
  | [u0, u1, u2, u3, u4, u5, u6, u7, u8, u9, u10, u11, u12, u13], _ =>
    simp at h0 h1 h2 h3 h4 h5 h6 h7
    subst h0 h1 h2 h3 h4 h5 h6 h7
    obtain ⟨a5, c5, rfl, _⟩ := g5.shape
    obtain ⟨a6, c6, rfl, _⟩ := g6.shape
    obtain ⟨a7, c7, rfl, _⟩ := g7.shape
    have h8' : ([.int .i64 q0, .int .i64 q1, .int .i64 q2, .int .i64 q3, .bool q4, .bool q5] : List Value) = [u8, u9, u10, u11, u12, u13] := h8
    simp only [List.cons.injEq, and_true] at h8'
    obtain ⟨rfl, rfl, rfl, rfl, rfl, rfl⟩ := h8'
    exact ⟨(a, b, c, d, e, ⟨a5, cl.length, c5⟩, ⟨a6, al.length, c6⟩, ⟨a7, sl.length, c7⟩, (q0, q1, q2, q3, q4, q5)), rfl, a, b, c, d, e, cl, al, sl, q0, q1, q2, q3, q4, q5, a5, a6, a7, c5, c6, c7, rfl, g5, g6, g7, r1, r2, s1, s2, s3, s4, g8⟩

theorem arg_flats {W : World} {v : Value} (h : Arg Tryd.prog W 22 v) : ∃ F : List FlH, SlT F v W ∧ ∀ x ∈ F, FlR W x := by
  obtain ⟨u, xs, h1, h2, h3⟩ := SlT.of_rdg (α := FlH) (FlR W) (D := 7) h.1 (eT rfl) (zT rfl) (fun us _ h => rdg_flat (D := 3) h)
  rw [h.2.2 (aT rfl)] at h1
  simp at h1
  subst h1
  exact ⟨xs, h2, h3⟩
end Go.Proofs.YtkcjkbnbblpomaaDoor
namespace Go.Proofs.YtkcjkbnbblpomaaDoor
open Go.RowKit
set_option maxRecDepth 100000
attribute [local irreducible] Go.Code.wpIn Go.wpListIn Go.Calls Gives Go.Exit.then Go.Exit.inBlock Done ObxE

theorem laid9 {W : World} {x y z : String × DataW Unit} (hz : z = ("internal/strconv.uint64pow10", Rows.laid_internal_strconv_uint64pow10)) (h : laidMet Tryd.prog [x, y, z] W) : TabW W := by
  subst hz
  have h2 := laid_tail (laid_tail h)
  exact Lib.tabIs_of_head (g := 1) (t := 152) (by kernel_rfl) (by kernel_rfl) Tryd.underlying152 Tryd.underlying142 (by kernel_rfl) (by kernel_rfl) h2
end Go.Proofs.YtkcjkbnbblpomaaDoor
namespace Go.Proofs.YtkcjkbnbblpomaaDoor
open Go.RowKit
set_option maxRecDepth 100000
attribute [local irreducible] Go.Code.wpIn Go.wpListIn Go.Calls Gives Go.Exit.then Go.Exit.inBlock Done ObxE

theorem laid_StillSame {W : World} (hL : laidMetH Tryd.prog Rows.stillSameRow.laid W) : TabW W := by
  rw [MakeChecks.laidMetH_plain _ _ _ (by kernel_rfl)] at hL
  exact laid9 rfl hL
theorem walk_StillSame (W : World) (vs : List Value) (hL : laidMetH Tryd.prog Rows.stillSameRow.laid W) (h : Args Tryd.prog W [22, 22] vs) : Calls Tryd.prog 3 vs.toArray W (Ret fun v w => v = .bool true ∧ St W [] w) := by
  obtain ⟨v, u, rfl, ha, hb⟩ := args2 h
  obtain ⟨F, hv, hR⟩ := arg_flats ha
  obtain ⟨G, hu, hQ⟩ := arg_flats hb
  exact stillsame_any F v G u W hv hR hu hQ (laid_StillSame hL)
end Go.Proofs.YtkcjkbnbblpomaaDoor
