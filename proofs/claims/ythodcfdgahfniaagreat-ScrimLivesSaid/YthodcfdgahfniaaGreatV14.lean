/- The top, a kid's life: what is asked for, and what comes of a call. The top, a kid's life: what comes of a call. The top, a kid's life: a frame more. The top, a kid's life: the clock goes on. Layer 3: lists of texts, each once. Layer 3: a list is the same as itself. -/
import Derived.Test.YthodcfdgahfniaaGreatV10
import Derived.Test.YthodcfdgahfniaaGreatV13
import Derived.Test.YthodcfdgahfniaaGreatV12
import Derived.Test.YthodcfdgahfniaaGreatV08
set_option linter.all false
namespace Go.Proofs.YthodcfdgahfniaaGreat
open Go.RowKit

theorem At.back {A : HP} {X X1 : List HP} (h : At A X X1) : Sub X (A :: X1) := by
  induction h with
  | here => exact .refl
  | there _ ih => exact .cons (.there .here) ih
section
variable {df : List Deferred} {P : Program} {n : Nat} {l : List (Nat × Value)} {w0 : Bs} {L : List HP}
variable {os : List Oper} {i : Nat} {o : Oper} {r : List Oper} {acc : List (Nat × Nat × HV)} {HR : List (Nat × ((Nat → Value) → Value → HP))} {FinE : List (Nat × Nat × HV) → List (Nat × ((Nat → Value) → Value → HP)) → List HP → Prop} {TK : List HP}
theorem obe_updS (A : HP) {V : Value → HP} (h : ∀ (us : Nat → Value) (a : Act) (w : World) (X : List HP), Kn df n a (vwE acc l us (o.looksAt os.toArray)) → depE acc us w (o.looksAt os.toArray) → St w0 (A :: X) w → Sub L X → Gives P o a w (fun v w' => St w0 (V v :: X) w'))
    (hr : ObxE df P n os l w0 L FinE (i + 1) r (pushE o.dst i (.upd A V) acc) ((i, fun _ => V) :: HR) (TK ++ [A]))
    (hg : ∀ us, gdK os.toArray (vwE acc l us (o.looksAt os.toArray)) o.guard = some true := by intro us; rfl) : ObxE df P n os l w0 L FinE i (o :: r) acc HR TK :=
  ⟨.upd A V, ⟨⟨fun k e => (by simp [HV.srcs] at e), fun k T A V e => (by cases e)⟩, fun us a w X hk hd hS hX _ => .inr ⟨hg us, h us a w X hk hd hS hX⟩⟩, hr⟩
end

set_option maxRecDepth 100000
attribute [local irreducible] Go.Code.wpIn Go.wpListIn Go.Calls Gives Go.Exit.then Go.Exit.inBlock Done ObxE
abbrev refV (r : Bool × Int) : Value := .agg #[.bool r.1, .int .i64 r.2]
abbrev kidF (bs : Nat) (s : PS) (job mv : Bool × Int) (h : Value) (gone : Bool) : List Value :=
  [.int .i64 s.k, .int .i64 s.m, .int .i64 s.x, .int .i64 s.y, .int .i64 s.d, .int .i64 s.e, ptV bs, .bool job.1, .int .i64 job.2, .bool mv.1, .int .i64 mv.2, h, .bool gone]
def kidL (bk bs : Nat) (ks : KS) (h : Hd) : List HP := [pts bk (kidF bs ks.s ks.job ks.mv h.v ks.gone) 37, OwT 3 ks.told h.v, schedH bs ks.now ks.wl ks.ql ks.w]
def kidH (bk bs : Nat) (ks : KS) : HP := bagH (fun h : Hd => kidL bk bs ks h) (fun _ => True)
section
variable {B : Bs} {w : World} {L L' : List HP}
theorem St.kid {bk bs : Nat} {ks : KS} (hS : St B L w) (hat : At (kidH bk bs ks) L L') : ∃ h : Hd, St B (kidL bk bs ks h ++ L') w := by
  obtain ⟨h, -, hS⟩ := St.bag hS hat
  exact ⟨h, hS⟩
theorem kidH.of {bk bs : Nat} {ks : KS} {h : Hd} (hS : St B (kidL bk bs ks h ++ L) w) : St B (kidH bk bs ks :: L) w :=
  bagH.of (A := fun h : Hd => kidL bk bs ks h) (x := h) hS trivial
theorem ask_any {bk bs : Nat} {ks : KS} {what dur kind : Int} {r : Bool × Int} {v0 v1 v2 v3 v4 v5 v7 v8 v9 v10 v11 v12 : Value}
    (hw : what = 1 ∨ what = 2 → ks.w = .no) (hwl : 0 ≤ ks.wl ∧ ks.wl ≤ 1000000) (hql : 0 ≤ ks.ql ∧ ks.ql ≤ 1000000)
    (hS : St B (schedH bs ks.now ks.wl ks.ql ks.w :: pts bk [v0, v1, v2, v3, v4, v5, ptV bs, v7, v8, v9, v10, v11, v12] 37 :: L) w) :
    Calls Tryz.prog 30 #[ptV bk, .int .i64 what, .int .i64 dur, .int .i64 kind, refV r] w (Ret fun v w' => v = refV (refK ks what r) ∧
      St B (schedH bs (askK ks what dur kind).now (askK ks what dur kind).wl (askK ks what dur kind).ql (askK ks what dur kind).w :: pts bk [v0, v1, v2, v3, v4, v5, ptV bs, v7, v8, v9, v10, v11, v12] 37 :: L) w') := by
  obtain ⟨s, now, wl, ql, x, job, mv, told, gone⟩ := ks
  obtain ⟨r1, r2⟩ := r
  simp only at hw hwl hql hS
  by_cases h1 : what = 1
  · subst h1
    have hx : x = .no := hw (.inl rfl)
    subst hx
    simp only [askK, refK, if_true]
    refine enter Tryz.func30 rfl Tryz.ntmps30 rfl (fun a hk => ?_)
    refine wpIn_seq ?_; refine wpIn_region_lit ?_
    refine st_box hk hS ?_; clear hk hS a; intro w b9 hS a hk
    (repeat' (first | (show wpListIn _ _ _ _ _ (_ :: _) _ _; first | (refine wx1 ?_; clear hk a; intro a hk) | (refine wx2 ?_ ?_ <;> (intro hp; clear hk a; intro a hk)) | (refine wx3 ?_; clear hk hS a; intro w b hS a hk) | (refine wx4 ?_; clear hk hS a; intro w hS a hk) | (refine wx5 ?_; clear hk hS a; intro w v hS a hk) | fail) | refine wx0 ?_ | (refine s_end hk ?_; clear hk a; intro a hk) | fail))
    refine sg hk (g_callO hk (hf := by kernel_rfl) (hc := second_any (bs := bs) (now := now) (wl := wl) (ql := ql) (k := kind) hql (hS.sub (.cons (by (repeat (first | exact At.here | apply At.there))) .refl))) (h := ?_)); clear hk hS a; intro vr w hS a hk
    obtain ⟨rfl, hS⟩ := hS
    (repeat' (first | (show wpListIn _ _ _ _ _ (_ :: _) _ _; first | (refine wx1 ?_; clear hk a; intro a hk) | (refine wx2 ?_ ?_ <;> (intro hp; clear hk a; intro a hk)) | (refine wx3 ?_; clear hk hS a; intro w b hS a hk) | (refine wx4 ?_; clear hk hS a; intro w hS a hk) | (refine wx5 ?_; clear hk hS a; intro w v hS a hk) | fail) | refine wx0 ?_ | (refine s_end hk ?_; clear hk a; intro a hk) | fail))
    refine done1R hk rfl (.str hS (hT := aT rfl) (hs := zT rfl)) (h := ⟨rfl, ?_⟩)
    exact hS.sub (.cons (by (repeat (first | exact At.here | apply At.there))) (.cons (by (repeat (first | exact At.here | apply At.there))) (by (repeat (first | exact Sub.refl | apply Sub.under)))))
  · by_cases h2 : what = 2
    · subst h2
      have hx : x = .no := hw (.inr rfl)
      subst hx
      simp only [askK, refK, if_true, if_neg h1]
      refine enter Tryz.func30 rfl Tryz.ntmps30 rfl (fun a hk => ?_)
      refine wpIn_seq ?_; refine wpIn_region_lit ?_
      refine st_box hk hS ?_; clear hk hS a; intro w b9 hS a hk
      (repeat' (first | (show wpListIn _ _ _ _ _ (_ :: _) _ _; first | (refine wx1 ?_; clear hk a; intro a hk) | (refine wx2 ?_ ?_ <;> (intro hp; clear hk a; intro a hk)) | (refine wx3 ?_; clear hk hS a; intro w b hS a hk) | (refine wx4 ?_; clear hk hS a; intro w hS a hk) | (refine wx5 ?_; clear hk hS a; intro w v hS a hk) | fail) | refine wx0 ?_ | (refine s_end hk ?_; clear hk a; intro a hk) | fail))
      refine sg hk (g_callO hk (hf := by kernel_rfl) (hc := after_any (bs := bs) (now := now) (wl := wl) (ql := ql) (k := kind) (d := dur) hwl (hS.sub (.cons (by (repeat (first | exact At.here | apply At.there))) .refl))) (h := ?_)); clear hk hS a; intro vr w hS a hk
      obtain ⟨rfl, hS⟩ := hS
      (repeat' (first | (show wpListIn _ _ _ _ _ (_ :: _) _ _; first | (refine wx1 ?_; clear hk a; intro a hk) | (refine wx2 ?_ ?_ <;> (intro hp; clear hk a; intro a hk)) | (refine wx3 ?_; clear hk hS a; intro w b hS a hk) | (refine wx4 ?_; clear hk hS a; intro w hS a hk) | (refine wx5 ?_; clear hk hS a; intro w v hS a hk) | fail) | refine wx0 ?_ | (refine s_end hk ?_; clear hk a; intro a hk) | fail))
      refine done1R hk rfl (.str hS (hT := aT rfl) (hs := zT rfl)) (h := ⟨rfl, ?_⟩)
      exact hS.sub (.cons (by (repeat (first | exact At.here | apply At.there))) (.cons (by (repeat (first | exact At.here | apply At.there))) (by (repeat (first | exact Sub.refl | apply Sub.under)))))
    · simp only [askK, refK, if_neg h1, if_neg h2]
      refine enter Tryz.func30 rfl Tryz.ntmps30 rfl (fun a hk => ?_)
      refine wpIn_seq ?_; refine wpIn_region_lit ?_
      refine st_box hk hS ?_; clear hk hS a; intro w b9 hS a hk
      (repeat' (first | (show wpListIn _ _ _ _ _ (_ :: _) _ _; first | (refine wx1 ?_; clear hk a; intro a hk) | (refine wx2 ?_ ?_ <;> (intro hp; clear hk a; intro a hk)) | (refine wx3 ?_; clear hk hS a; intro w b hS a hk) | (refine wx4 ?_; clear hk hS a; intro w hS a hk) | (refine wx5 ?_; clear hk hS a; intro w v hS a hk) | fail) | refine wx0 ?_ | (refine s_end hk ?_; clear hk a; intro a hk) | fail))
      refine done1R hk rfl (.str hS (hT := aT rfl) (hs := zT rfl)) (h := ⟨rfl, ?_⟩)
      exact hS.sub (.cons (by (repeat (first | exact At.here | apply At.there))) (.cons (by (repeat (first | exact At.here | apply At.there))) (by (repeat (first | exact Sub.refl | apply Sub.under)))))
end
end Go.Proofs.YthodcfdgahfniaaGreat
namespace Go.Proofs.YthodcfdgahfniaaGreat
open Go.RowKit
section
variable {P : Program} {Q : Exit → Act → World → Prop} {rr : Option Nat} {a : Act} {w : World}
theorem wp_aft {x : Code} {Q1 : Act → World → Prop} (R' : Act → World → Prop) (h1 : x.wpIn (FR rr) 0 P (Exit.then R' Q) a w) (h2 : ∀ a w, R' a w → Q1 a w) : x.wpIn (FR rr) 0 P (Exit.then Q1 Q) a w :=
  wpIn_mono h1 (fun e a w h => by cases e <;> first | exact h2 _ _ h | exact h)
end
set_option maxRecDepth 100000
attribute [local irreducible] Go.Code.wpIn Go.wpListIn Go.Calls Gives Go.Exit.then Go.Exit.inBlock Done ObxE

theorem askK_s (ks : KS) (a d k : Int) : (askK ks a d k).s = ks.s ∧ (askK ks a d k).job = ks.job ∧ (askK ks a d k).mv = ks.mv ∧ (askK ks a d k).told = ks.told ∧ (askK ks a d k).gone = ks.gone := by
  unfold askK
  split
  · exact ⟨rfl, rfl, rfl, rfl, rfl⟩
  · split <;> exact ⟨rfl, rfl, rfl, rfl, rfl⟩
theorem askK_n (ks : KS) (a d k : Int) : ks.wl ≤ (askK ks a d k).wl ∧ (askK ks a d k).wl ≤ ks.wl + 1 ∧ ks.ql ≤ (askK ks a d k).ql ∧ (askK ks a d k).ql ≤ ks.ql + 1 := by
  unfold askK
  split
  · dsimp only; omega
  · split
    · dsimp only; omega
    · omega
section
variable {B : Bs} {w : World} {L L' : List HP}
set_option maxHeartbeats 2000000 in
theorem done_any {bk bs : Nat} {ks : KS} {o : PO} {ho : Hd} (hask : askable ks o) (hwl : 0 ≤ ks.wl ∧ ks.wl ≤ 900000) (hql : 0 ≤ ks.ql ∧ ks.ql ≤ 900000) (hto : ks.told.length ≤ 900000) (hoh : o.hk.length ≤ 100)
    (hS : St B (OwT 3 o.hk ho.v :: kidH bk bs ks :: L) w) :
    Calls Tryz.prog 10 #[ptV bk, ouV o ho] w (Ret fun _ w' => St B (kidH bk bs (doneK ks o) :: L) w') := by
  obtain ⟨h, hS1⟩ := hS.kid (bk := bk) (bs := bs) (ks := ks) (by (repeat (first | exact At.here | apply At.there)))
  clear hS
  have hS := hS1
  clear hS1
  simp only [kidL, List.cons_append, List.nil_append] at hS
  obtain ⟨hask1, hask2⟩ := hask
  generalize hks1 : offK ks o = k1 at hask1 hask2
  generalize hks2 : jobK ks o = k2 at hask2
  have hfin : doneK ks o = { askK k2 o.mj o.s.e 2 with mv := refK k2 o.mj ks.mv } := by rw [← hks2]; rfl
  have hjob : k2 = { askK k1 o.j o.s.d 1 with job := refK k1 o.j ks.job } := by rw [← hks2, ← hks1]; rfl
  rw [hfin]
  clear hfin hks2
  obtain ⟨s, now, wl, ql, x, job, mv, told, gone⟩ := ks
  obtain ⟨j1, j2⟩ := job
  obtain ⟨m1, m2⟩ := mv
  obtain ⟨s', l, j, mj, en, me, go⟩ := o
  obtain ⟨pa, pn, pc⟩ := ho
  obtain ⟨ha, hn, hc⟩ := h
  simp only at hwl hql hto hoh hS hask1 hask2 hjob
  obtain ⟨k', m', x', y', d', e'⟩ := s'
  obtain ⟨k0, m0, x0, y0, d0, e0⟩ := s
  show Calls Tryz.prog 10 #[ptV bk, .agg #[.int .i64 k', .int .i64 m', .int .i64 x', .int .i64 y', .int .i64 d', .int .i64 e', .slice pa pn pc, .int .i64 j, .int .i64 mj, .bool en, .bool me, .bool go]] w _
  refine enter Tryz.func10 rfl Tryz.ntmps10 rfl (fun a hk => ?_)
  refine wpIn_seq ?_; refine wpIn_region_lit ?_
  refine st_box hk hS ?_; clear hk hS a; intro w b3 hS a hk
  (repeat' (first | (show wpListIn _ _ _ _ _ (_ :: _) _ _; first | (refine wx1 ?_; clear hk a; intro a hk) | (refine wx2 ?_ ?_ <;> (intro hp; clear hk a; intro a hk)) | (refine wx3 ?_; clear hk hS a; intro w b hS a hk) | (refine wx4 ?_; clear hk hS a; intro w hS a hk) | (refine wx5 ?_; clear hk hS a; intro w v hS a hk) | fail) | refine wx0 ?_ | (refine s_end hk ?_; clear hk a; intro a hk) | fail))
  replace hS := hS.sub (L' := OwT 3 told (.slice ha hn hc) :: OwT 3 l (.slice pa pn pc) :: pts b3 [.int .i64 k', .int .i64 m', .int .i64 x', .int .i64 y', .int .i64 d', .int .i64 e', .slice pa pn pc, .int .i64 j, .int .i64 mj, .bool en, .bool me, .bool go] 39 :: pts bk [.int .i64 k', .int .i64 m', .int .i64 x', .int .i64 y', .int .i64 d', .int .i64 e', ptV bs, (.bool j1), (.int .i64 j2), (.bool m1), (.int .i64 m2), (.slice ha hn hc), (.bool gone)] 37 :: schedH bs now wl ql x :: L) (by (repeat (first | exact Sub.nil | exact Sub.refl | refine Sub.cons (by (repeat (first | exact At.here | apply At.there))) ?_)))
  refine wp_aft (fun a w => ∃ ta tc, Kn [] 82 a [(0, ptV bk), (3, ptV b3)] ∧ St B (pts bk [.int .i64 k', .int .i64 m', .int .i64 x', .int .i64 y', .int .i64 d', .int .i64 e', ptV bs, (.bool j1), (.int .i64 j2), (.bool m1), (.int .i64 m2), (.slice ta (told ++ l).length tc), (.bool gone)] 37 :: OwT 3 (told ++ l) (.slice ta (told ++ l).length tc) :: pts b3 [.int .i64 k', .int .i64 m', .int .i64 x', .int .i64 y', .int .i64 d', .int .i64 e', .slice pa pn pc, .int .i64 j, .int .i64 mj, .bool en, .bool me, .bool go] 39 :: schedH bs now wl ql x :: L) w) ?_ ?_
  · refine wp_drawnU1 8 mixed (by kernel_rfl) hk hS ?_; clear hk hS a
    (repeat' (first | (show ObxE _ _ _ _ _ _ _ _ _ (_ :: _) _ _ _; first | refine ox1 ?_ | (refine ox2 ?_ ?_ <;> intro hp) | fail) | fail))
    refine' obe_upd (OwT 3 told (.slice ha hn hc)) (V := OwT 3 (told ++ l)) (fun us a w X hk hd hS hL => ?_) ?_
    · have hk := Kn.vw hk (by repeat (first | exact VW.nil | apply VW.val rfl | apply VW.base rfl rfl | apply VW.res rfl | apply VW.upd rfl | apply VW.cpy rfl | apply VW.dep rfl | apply VW.fn rfl | apply VW.lnd rfl | apply VW.tak rfl))
      exact v_app hk hS (hT := eT rfl) (hTx := eT rfl) (hs := OwT.rd (hL.rd (A := OwT 3 l (.slice pa pn pc)) (by (repeat (first | exact At.here | apply At.there))))) (hE := zT rfl) (hz := oT rfl) (hzs := rfl) (hby := bT rfl) (hbytes := by omega) (h63 := by simp only [maxLen]; omega)
    refine obe_nil ⟨rfl, ?_⟩; intro us a w hk hS
    simp only [resE, List.cons_append, List.nil_append] at hS
    replace hk := Kn.kp [0, 3, 9, 16] hk
    simp only [HV.of, Nat.zero_add, Nat.reduceAdd] at hk hS
    generalize us 7 = vx at hk hS
    obtain ⟨aovx, cvx, hshp, _⟩ := (OwT.rd (hS.rd (A := OwT 3 _ vx) (by (repeat (first | exact At.here | apply At.there))))).shape; subst hshp
    (repeat' (first | (show wpListIn _ _ _ _ _ (_ :: _) _ _; first | (refine wx1 ?_; clear hk a; intro a hk) | (refine wx2 ?_ ?_ <;> (intro hp; clear hk a; intro a hk)) | (refine wx3 ?_; clear hk hS a; intro w b hS a hk) | (refine wx4 ?_; clear hk hS a; intro w hS a hk) | (refine wx5 ?_; clear hk hS a; intro w v hS a hk) | fail) | refine wx0 ?_ | (refine s_end hk ?_; clear hk a; intro a hk) | fail))
    exact ⟨aovx, cvx, hk.sub (by repeat (first | exact trivial | refine ⟨rfl, ?_⟩)), hS.sub (.cons (by (repeat (first | exact At.here | apply At.there))) (.cons (by (repeat (first | exact At.here | apply At.there))) (.cons (by (repeat (first | exact At.here | apply At.there))) (.cons (by (repeat (first | exact At.here | apply At.there))) (by (repeat (first | exact Sub.refl | apply Sub.under)))))))⟩
  clear hk hS a w
  rintro a w ⟨ta, tc, hk, hS⟩
  refine wp_mid (fun a w => Kn [] 82 a [(0, ptV bk), (3, ptV b3)] ∧ St B (pts bk [.int .i64 k', .int .i64 m', .int .i64 x', .int .i64 y', .int .i64 d', .int .i64 e', ptV bs, (.bool j1), (.int .i64 j2), (.bool m1), (.int .i64 m2), (.slice ta (told ++ l).length tc), (.bool gone)] 37 :: OwT 3 (told ++ l) (.slice ta (told ++ l).length tc) :: pts b3 [.int .i64 k', .int .i64 m', .int .i64 x', .int .i64 y', .int .i64 d', .int .i64 e', .slice pa pn pc, .int .i64 j, .int .i64 mj, .bool en, .bool me, .bool go] 39 :: schedH bs now wl ql (if (en || go) = true then cutW (j1, j2) x else x) :: L) w) ?_ ?_
  · clear hask1 hask2 hjob hks1
    cases en <;> cases go
    all_goals (simp only [Bool.or_true, Bool.or_false, Bool.true_or, Bool.false_or, if_true, if_neg Bool.false_ne_true])
    focus (
      (repeat' (first | (show wpListIn _ _ _ _ _ (_ :: _) _ _; first | (refine wx1 ?_; clear hk a; intro a hk) | (refine wx2 ?_ ?_ <;> (intro hp; clear hk a; intro a hk)) | (refine wx3 ?_; clear hk hS a; intro w b hS a hk) | (refine wx4 ?_; clear hk hS a; intro w hS a hk) | (refine wx5 ?_; clear hk hS a; intro w v hS a hk) | fail) | refine wx0 ?_ | (refine s_end hk ?_; clear hk a; intro a hk) | fail))
      exact ⟨hk.sub (by repeat (first | exact trivial | refine ⟨rfl, ?_⟩)), hS.sub (by (repeat (first | exact Sub.nil | exact Sub.refl | refine Sub.cons (by (repeat (first | exact At.here | apply At.there))) ?_)))⟩)
    all_goals (
      (repeat' (first | (show wpListIn _ _ _ _ _ (_ :: _) _ _; first | (refine wx1 ?_; clear hk a; intro a hk) | (refine wx2 ?_ ?_ <;> (intro hp; clear hk a; intro a hk)) | (refine wx3 ?_; clear hk hS a; intro w b hS a hk) | (refine wx4 ?_; clear hk hS a; intro w hS a hk) | (refine wx5 ?_; clear hk hS a; intro w v hS a hk) | fail) | refine wx0 ?_ | (refine s_end hk ?_; clear hk a; intro a hk) | fail))
      refine wp_drawn 8 mixed (by kernel_rfl) hk hS ?_; clear hk hS a
      (repeat' (first | (show ObxE _ _ _ _ _ _ _ _ _ (_ :: _) _ _ _; first | refine ox1 ?_ | (refine ox2 ?_ ?_ <;> intro hp) | fail) | fail))
      refine obe_nil ⟨rfl, ?_⟩; intro us a w hk hS
      refine sg hk (g_callO hk (hf := by kernel_rfl) (hc := scancel_any (bs := bs) (fr := j1) (tok := j2) (x := x) (hS.sub (.cons (by (repeat (first | exact At.here | apply At.there))) .refl))) (h := ?_)); clear hk hS a; intro vr w hS a hk
      obtain ⟨⟨q, rfl⟩, hS⟩ := hS
      (repeat' (first | (show wpListIn _ _ _ _ _ (_ :: _) _ _; first | (refine wx1 ?_; clear hk a; intro a hk) | (refine wx2 ?_ ?_ <;> (intro hp; clear hk a; intro a hk)) | (refine wx3 ?_; clear hk hS a; intro w b hS a hk) | (refine wx4 ?_; clear hk hS a; intro w hS a hk) | (refine wx5 ?_; clear hk hS a; intro w v hS a hk) | fail) | refine wx0 ?_ | (refine s_end hk ?_; clear hk a; intro a hk) | fail))
      exact ⟨hk.sub (by repeat (first | exact trivial | refine ⟨rfl, ?_⟩)), hS.sub (by (repeat (first | exact Sub.nil | exact Sub.refl | refine Sub.cons (by (repeat (first | exact At.here | apply At.there))) ?_)))⟩)
  clear hk hS a w
  rintro a w ⟨hk, hS⟩
  generalize hx1 : (if (en || go) = true then cutW (j1, j2) x else x) = x1 at hS
  refine wp_mid (fun a w => Kn [] 82 a [(0, ptV bk), (3, ptV b3)] ∧ St B (pts bk [.int .i64 k', .int .i64 m', .int .i64 x', .int .i64 y', .int .i64 d', .int .i64 e', ptV bs, (.bool j1), (.int .i64 j2), (.bool m1), (.int .i64 m2), (.slice ta (told ++ l).length tc), (.bool gone)] 37 :: OwT 3 (told ++ l) (.slice ta (told ++ l).length tc) :: pts b3 [.int .i64 k', .int .i64 m', .int .i64 x', .int .i64 y', .int .i64 d', .int .i64 e', .slice pa pn pc, .int .i64 j, .int .i64 mj, .bool en, .bool me, .bool go] 39 :: schedH bs now wl ql (if (me || go) = true then cutW (m1, m2) x1 else x1) :: L) w) ?_ ?_
  · clear hask1 hask2 hjob hks1 hx1
    cases me <;> cases go
    all_goals (simp only [Bool.or_true, Bool.or_false, Bool.true_or, Bool.false_or, if_true, if_neg Bool.false_ne_true])
    focus (
      (repeat' (first | (show wpListIn _ _ _ _ _ (_ :: _) _ _; first | (refine wx1 ?_; clear hk a; intro a hk) | (refine wx2 ?_ ?_ <;> (intro hp; clear hk a; intro a hk)) | (refine wx3 ?_; clear hk hS a; intro w b hS a hk) | (refine wx4 ?_; clear hk hS a; intro w hS a hk) | (refine wx5 ?_; clear hk hS a; intro w v hS a hk) | fail) | refine wx0 ?_ | (refine s_end hk ?_; clear hk a; intro a hk) | fail))
      exact ⟨hk.sub (by repeat (first | exact trivial | refine ⟨rfl, ?_⟩)), hS.sub (by (repeat (first | exact Sub.nil | exact Sub.refl | refine Sub.cons (by (repeat (first | exact At.here | apply At.there))) ?_)))⟩)
    all_goals (
      (repeat' (first | (show wpListIn _ _ _ _ _ (_ :: _) _ _; first | (refine wx1 ?_; clear hk a; intro a hk) | (refine wx2 ?_ ?_ <;> (intro hp; clear hk a; intro a hk)) | (refine wx3 ?_; clear hk hS a; intro w b hS a hk) | (refine wx4 ?_; clear hk hS a; intro w hS a hk) | (refine wx5 ?_; clear hk hS a; intro w v hS a hk) | fail) | refine wx0 ?_ | (refine s_end hk ?_; clear hk a; intro a hk) | fail))
      refine wp_drawn 8 mixed (by kernel_rfl) hk hS ?_; clear hk hS a
      (repeat' (first | (show ObxE _ _ _ _ _ _ _ _ _ (_ :: _) _ _ _; first | refine ox1 ?_ | (refine ox2 ?_ ?_ <;> intro hp) | fail) | fail))
      refine obe_nil ⟨rfl, ?_⟩; intro us a w hk hS
      refine sg hk (g_callO hk (hf := by kernel_rfl) (hc := scancel_any (bs := bs) (fr := m1) (tok := m2) (x := x1) (hS.sub (.cons (by (repeat (first | exact At.here | apply At.there))) .refl))) (h := ?_)); clear hk hS a; intro vr w hS a hk
      obtain ⟨⟨q, rfl⟩, hS⟩ := hS
      (repeat' (first | (show wpListIn _ _ _ _ _ (_ :: _) _ _; first | (refine wx1 ?_; clear hk a; intro a hk) | (refine wx2 ?_ ?_ <;> (intro hp; clear hk a; intro a hk)) | (refine wx3 ?_; clear hk hS a; intro w b hS a hk) | (refine wx4 ?_; clear hk hS a; intro w hS a hk) | (refine wx5 ?_; clear hk hS a; intro w v hS a hk) | fail) | refine wx0 ?_ | (refine s_end hk ?_; clear hk a; intro a hk) | fail))
      exact ⟨hk.sub (by repeat (first | exact trivial | refine ⟨rfl, ?_⟩)), hS.sub (by (repeat (first | exact Sub.nil | exact Sub.refl | refine Sub.cons (by (repeat (first | exact At.here | apply At.there))) ?_)))⟩)
  clear hk hS a w
  rintro a w ⟨hk, hS⟩
  have hk1 : k1 = ⟨⟨k', m', x', y', d', e'⟩, now, wl, ql, (if (me || go) = true then cutW (m1, m2) x1 else x1), (j1, j2), (m1, m2), told ++ l, go⟩ := by rw [← hks1, ← hx1]; rfl
  generalize (if (me || go) = true then cutW (m1, m2) x1 else x1) = x2 at hS hk1
  have a1 : k1.now = now := by rw [hk1]
  have a2 : k1.wl = wl := by rw [hk1]
  have a3 : k1.ql = ql := by rw [hk1]
  have a4 : k1.w = x2 := by rw [hk1]
  rw [← a1, ← a2, ← a3, ← a4] at hS
  rw [← a2] at hwl
  rw [← a3] at hql
  (repeat' (first | (show wpListIn _ _ _ _ _ (_ :: _) _ _; first | (refine wx1 ?_; clear hk a; intro a hk) | (refine wx2 ?_ ?_ <;> (intro hp; clear hk a; intro a hk)) | (refine wx3 ?_; clear hk hS a; intro w b hS a hk) | (refine wx4 ?_; clear hk hS a; intro w hS a hk) | (refine wx5 ?_; clear hk hS a; intro w v hS a hk) | fail) | refine wx0 ?_ | (refine s_end hk ?_; clear hk a; intro a hk) | fail))
  replace hS := hS.sub (L' := schedH bs k1.now k1.wl k1.ql k1.w :: pts bk [.int .i64 k', .int .i64 m', .int .i64 x', .int .i64 y', .int .i64 d', .int .i64 e', ptV bs, (.bool j1), (.int .i64 j2), (.bool m1), (.int .i64 m2), (.slice ta (told ++ l).length tc), (.bool go)] 37 :: OwT 3 (told ++ l) (.slice ta (told ++ l).length tc) :: pts b3 [.int .i64 k', .int .i64 m', .int .i64 x', .int .i64 y', .int .i64 d', .int .i64 e', .slice pa pn pc, .int .i64 j, .int .i64 mj, .bool en, .bool me, .bool go] 39 :: L) (by (repeat (first | exact Sub.nil | exact Sub.refl | refine Sub.cons (by (repeat (first | exact At.here | apply At.there))) ?_)))
  refine wp_drawnU1 12 mixed (by kernel_rfl) hk hS ?_; clear hk hS a
  (repeat' (first | (show ObxE _ _ _ _ _ _ _ _ _ (_ :: _) _ _ _; first | refine ox1 ?_ | (refine ox2 ?_ ?_ <;> intro hp) | fail) | fail))
  refine' obe_updS (schedH bs k1.now k1.wl k1.ql k1.w) (V := valH (refV (refK k1 j (j1, j2))) (schedH bs (askK k1 j d' 1).now (askK k1 j d' 1).wl (askK k1 j d' 1).ql (askK k1 j d' 1).w)) (fun us a w X hk hd hS hX => ?_) ?_
  · have hk := Kn.vw hk (by repeat (first | exact VW.nil | apply VW.val rfl | apply VW.base rfl rfl | apply VW.res rfl | apply VW.upd rfl | apply VW.cpy rfl | apply VW.dep rfl | apply VW.fn rfl | apply VW.lnd rfl | apply VW.tak rfl))
    obtain ⟨X1, hX1, -⟩ := Sub.at' hX (A := pts bk [.int .i64 k', .int .i64 m', .int .i64 x', .int .i64 y', .int .i64 d', .int .i64 e', ptV bs, (.bool j1), (.int .i64 j2), (.bool m1), (.int .i64 m2), (.slice ta (told ++ l).length tc), (.bool go)] 37) .here
    have hS' := hS.sub (L' := schedH bs k1.now k1.wl k1.ql k1.w :: pts bk [.int .i64 k', .int .i64 m', .int .i64 x', .int .i64 y', .int .i64 d', .int .i64 e', ptV bs, (.bool j1), (.int .i64 j2), (.bool m1), (.int .i64 m2), (.slice ta (told ++ l).length tc), (.bool go)] 37 :: X1) (.cons .here (.cons hX1 .refl))
    exact g_callO hk (hf := by kernel_rfl) (hc := ask_any (ks := k1) (what := j) (dur := d') (kind := 1) (r := (j1, j2)) hask1 ⟨by omega, by omega⟩ ⟨by omega, by omega⟩ hS') (h := fun v w' h => valH.of (h.2.sub (.cons .here hX1.back)) h.1)
  refine obe_nil ⟨rfl, ?_⟩; intro us a w hk hS
  simp only [resE, List.cons_append, List.nil_append] at hS
  replace hk := Kn.kp [0, 3, 54, 65] hk
  simp only [HV.of, Nat.zero_add, Nat.reduceAdd] at hk hS
  obtain ⟨e, hS1⟩ := St.val hS .here
  clear hS
  have hS := hS1
  clear hS1
  rw [e] at hk
  clear e
  (repeat' (first | (show wpListIn _ _ _ _ _ (_ :: _) _ _; first | (refine wx1 ?_; clear hk a; intro a hk) | (refine wx2 ?_ ?_ <;> (intro hp; clear hk a; intro a hk)) | (refine wx3 ?_; clear hk hS a; intro w b hS a hk) | (refine wx4 ?_; clear hk hS a; intro w hS a hk) | (refine wx5 ?_; clear hk hS a; intro w v hS a hk) | fail) | refine wx0 ?_ | (refine s_end hk ?_; clear hk a; intro a hk) | fail))
  have b1 : k2.now = (askK k1 j d' 1).now := by rw [hjob]
  have b2 : k2.wl = (askK k1 j d' 1).wl := by rw [hjob]
  have b3' : k2.ql = (askK k1 j d' 1).ql := by rw [hjob]
  have b4 : k2.w = (askK k1 j d' 1).w := by rw [hjob]
  have b5 : k2.job = refK k1 j (j1, j2) := by rw [hjob]
  obtain ⟨c1, c2, c3, c4, c5⟩ := askK_s k1 j d' 1
  have b6 : k2.s = ⟨k', m', x', y', d', e'⟩ := by rw [hjob]; exact c1.trans (by rw [hk1])
  have b7 : k2.told = told ++ l := by rw [hjob]; exact c4.trans (by rw [hk1])
  have b8 : k2.gone = go := by rw [hjob]; exact c5.trans (by rw [hk1])
  have n1 := askK_n k1 j d' 1
  rw [← b2, ← b3'] at n1
  rw [← b1, ← b2, ← b3', ← b4, ← b5] at hS
  clear c1 c2 c3 c4 c5 hjob hks1 hask1
  generalize hjj : k2.job = jj at hS
  obtain ⟨r1, r2⟩ := jj
  simp only at hS
  replace hS := hS.sub (L' := schedH bs k2.now k2.wl k2.ql k2.w :: pts bk [.int .i64 k', .int .i64 m', .int .i64 x', .int .i64 y', .int .i64 d', .int .i64 e', ptV bs, (.bool r1), (.int .i64 r2), (.bool m1), (.int .i64 m2), (.slice ta (told ++ l).length tc), (.bool go)] 37 :: OwT 3 (told ++ l) (.slice ta (told ++ l).length tc) :: pts b3 [.int .i64 k', .int .i64 m', .int .i64 x', .int .i64 y', .int .i64 d', .int .i64 e', .slice pa pn pc, .int .i64 j, .int .i64 mj, .bool en, .bool me, .bool go] 39 :: L) (by (repeat (first | exact Sub.nil | exact Sub.refl | refine Sub.cons (by (repeat (first | exact At.here | apply At.there))) ?_)))
  refine wp_drawnU1 12 mixed (by kernel_rfl) hk hS ?_; clear hk hS a
  (repeat' (first | (show ObxE _ _ _ _ _ _ _ _ _ (_ :: _) _ _ _; first | refine ox1 ?_ | (refine ox2 ?_ ?_ <;> intro hp) | fail) | fail))
  refine' obe_updS (schedH bs k2.now k2.wl k2.ql k2.w) (V := valH (refV (refK k2 mj (m1, m2))) (schedH bs (askK k2 mj e' 2).now (askK k2 mj e' 2).wl (askK k2 mj e' 2).ql (askK k2 mj e' 2).w)) (fun us a w X hk hd hS hX => ?_) ?_
  · have hk := Kn.vw hk (by repeat (first | exact VW.nil | apply VW.val rfl | apply VW.base rfl rfl | apply VW.res rfl | apply VW.upd rfl | apply VW.cpy rfl | apply VW.dep rfl | apply VW.fn rfl | apply VW.lnd rfl | apply VW.tak rfl))
    obtain ⟨X1, hX1, -⟩ := Sub.at' hX (A := pts bk [.int .i64 k', .int .i64 m', .int .i64 x', .int .i64 y', .int .i64 d', .int .i64 e', ptV bs, (.bool r1), (.int .i64 r2), (.bool m1), (.int .i64 m2), (.slice ta (told ++ l).length tc), (.bool go)] 37) .here
    have hS' := hS.sub (L' := schedH bs k2.now k2.wl k2.ql k2.w :: pts bk [.int .i64 k', .int .i64 m', .int .i64 x', .int .i64 y', .int .i64 d', .int .i64 e', ptV bs, (.bool r1), (.int .i64 r2), (.bool m1), (.int .i64 m2), (.slice ta (told ++ l).length tc), (.bool go)] 37 :: X1) (.cons .here (.cons hX1 .refl))
    exact g_callO hk (hf := by kernel_rfl) (hc := ask_any (ks := k2) (what := mj) (dur := e') (kind := 2) (r := (m1, m2)) hask2 ⟨by omega, by omega⟩ ⟨by omega, by omega⟩ hS') (h := fun v w' h => valH.of (h.2.sub (.cons .here hX1.back)) h.1)
  refine obe_nil ⟨rfl, ?_⟩; intro us a w hk hS
  simp only [resE, List.cons_append, List.nil_append] at hS
  replace hk := Kn.kp [0, 3, 68, 79] hk
  simp only [HV.of, Nat.zero_add, Nat.reduceAdd] at hk hS
  obtain ⟨e, hS1⟩ := St.val hS .here
  clear hS
  have hS := hS1
  clear hS1
  rw [e] at hk
  clear e
  (repeat' (first | (show wpListIn _ _ _ _ _ (_ :: _) _ _; first | (refine wx1 ?_; clear hk a; intro a hk) | (refine wx2 ?_ ?_ <;> (intro hp; clear hk a; intro a hk)) | (refine wx3 ?_; clear hk hS a; intro w b hS a hk) | (refine wx4 ?_; clear hk hS a; intro w hS a hk) | (refine wx5 ?_; clear hk hS a; intro w v hS a hk) | fail) | refine wx0 ?_ | (refine s_end hk ?_; clear hk a; intro a hk) | fail))
  refine done0n hk (h := ?_)
  obtain ⟨c1, c2, c3, c4, c5⟩ := askK_s k2 mj e' 2
  refine kidH.of (h := ⟨ta, (told ++ l).length, tc⟩) ?_
  simp only [kidL, kidF, List.cons_append, List.nil_append]
  rw [c1, c2, c4, c5, b6, b7, b8, hjj]
  exact hS.sub (.cons (by (repeat (first | exact At.here | apply At.there))) (.cons (by (repeat (first | exact At.here | apply At.there))) (.cons (by (repeat (first | exact At.here | apply At.there))) (by (repeat (first | exact Sub.refl | apply Sub.under))))))
end
end Go.Proofs.YthodcfdgahfniaaGreat
namespace Go.Proofs.YthodcfdgahfniaaGreat
open Go.RowKit
set_option maxRecDepth 100000
attribute [local irreducible] Go.Code.wpIn Go.wpListIn Go.Calls Gives Go.Exit.then Go.Exit.inBlock Done ObxE

section
variable {B : Bs} {w : World} {L L' : List HP}
set_option maxHeartbeats 2000000 in
theorem kframe_any {bk bs : Nat} {ks : KS} (hask : frmAsk ks) (hwl : 0 ≤ ks.wl ∧ ks.wl ≤ 900000) (hql : 0 ≤ ks.ql ∧ ks.ql ≤ 900000) (hto : ks.told.length ≤ 900000)
    (hS : St B (kidH bk bs ks :: L) w) :
    Calls Tryz.prog 8 #[ptV bk] w (Ret fun _ w' => St B (kidH bk bs (frameK ks) :: L) w') := by
  obtain ⟨h, hS1⟩ := hS.kid (bk := bk) (bs := bs) (ks := ks) (by (repeat (first | exact At.here | apply At.there)))
  clear hS
  have hS := hS1
  clear hS1
  simp only [kidL, List.cons_append, List.nil_append] at hS
  refine enter Tryz.func8 rfl Tryz.ntmps8 rfl (fun a hk => ?_)
  (repeat' (first | (show wpListIn _ _ _ _ _ (_ :: _) _ _; first | (refine wx1 ?_; clear hk a; intro a hk) | (refine wx2 ?_ ?_ <;> (intro hp; clear hk a; intro a hk)) | (refine wx3 ?_; clear hk hS a; intro w b hS a hk) | (refine wx4 ?_; clear hk hS a; intro w hS a hk) | (refine wx5 ?_; clear hk hS a; intro w v hS a hk) | fail) | refine wx0 ?_ | (refine s_end hk ?_; clear hk a; intro a hk) | fail))
  refine sg hk (g_callO hk (hf := by kernel_rfl) (hc := sframe_any (bs := bs) (now := ks.now) (wl := ks.wl) (ql := ks.ql) (x := ks.w) (hS.sub (.cons (by (repeat (first | exact At.here | apply At.there))) .refl))) (h := ?_)); clear hk hS a; intro v8 w hS a hk
  have hd : (dueJ ks.w = [] ∧ frameK ks = { ks with w := frameW ks.w }) ∨ ∃ t k, ks.w = .q0 t k := by
    unfold frameK
    cases hx : ks.w with
    | q0 t k => exact .inr ⟨t, k, rfl⟩
    | no => exact .inl ⟨rfl, by rw [show frameW Wt.no = ks.w from hx.symm]⟩
    | q1 t k => exact .inl ⟨rfl, rfl⟩
    | tm t d k => exact .inl ⟨rfl, by rw [show frameW (Wt.tm t d k) = ks.w from hx.symm]⟩
  rcases hd with ⟨e1, e2⟩ | ⟨t, k, e1⟩
  · rw [e1] at hS
    rw [e2]
    (repeat' (first | (show wpListIn _ _ _ _ _ (_ :: _) _ _; first | (refine wx1 ?_; clear hk a; intro a hk) | (refine wx2 ?_ ?_ <;> (intro hp; clear hk a; intro a hk)) | (refine wx3 ?_; clear hk hS a; intro w b hS a hk) | (refine wx4 ?_; clear hk hS a; intro w hS a hk) | (refine wx5 ?_; clear hk hS a; intro w v hS a hk) | fail) | refine wx0 ?_ | (refine s_end hk ?_; clear hk a; intro a hk) | fail))
    rw [show (([] : List (Int × Int)).length : Int) = 0 from rfl] at hk
    replace hk := Kn.kp [0, 8, 9, 10] hk
    replace hS := kidH.of (ks := { ks with w := frameW ks.w }) (h := h) (L := L) (hS.sub (.cons (by (repeat (first | exact At.here | apply At.there))) (.cons (by (repeat (first | exact At.here | apply At.there))) (.cons (by (repeat (first | exact At.here | apply At.there))) (by (repeat (first | exact Sub.refl | apply Sub.under)))))))
    refine wp_for 0 (fun j _ => [(10, .int .i64 (j : Int))]) (fun _ _ => kidH bk bs { ks with w := frameW ks.w } :: L) (fun _ _ => True) () hk (by repeat (first | exact trivial | refine ⟨rfl, ?_⟩)) (hS.sub .refl) trivial ?_
    clear hk hS a
    rintro j - a w hj hk hS -
    have : j = 0 := by omega
    subst this
    (repeat' (first | (show wpListIn _ _ _ _ _ (_ :: _) _ _; first | (refine wx1 ?_; clear hk a; intro a hk) | (refine wx2 ?_ ?_ <;> (intro hp; clear hk a; intro a hk)) | (refine wx3 ?_; clear hk hS a; intro w b hS a hk) | (refine wx4 ?_; clear hk hS a; intro w hS a hk) | (refine wx5 ?_; clear hk hS a; intro w v hS a hk) | fail) | refine wx0 ?_ | (refine s_end hk ?_; clear hk a; intro a hk) | fail))
    exact done0n hk (h := hS)
  · have e3 : frameK ks = doneK { ks with w := .no } (dueO k ks.s) := by unfold frameK; rw [e1]
    have e4 : askable { ks with w := .no } (dueO k ks.s) := by unfold frmAsk at hask; rw [e1] at hask; exact hask
    rw [e3]
    rw [e1] at hS
    simp only [frameW, dueJ] at hS
    (repeat' (first | (show wpListIn _ _ _ _ _ (_ :: _) _ _; first | (refine wx1 ?_; clear hk a; intro a hk) | (refine wx2 ?_ ?_ <;> (intro hp; clear hk a; intro a hk)) | (refine wx3 ?_; clear hk hS a; intro w b hS a hk) | (refine wx4 ?_; clear hk hS a; intro w hS a hk) | (refine wx5 ?_; clear hk hS a; intro w v hS a hk) | fail) | refine wx0 ?_ | (refine s_end hk ?_; clear hk a; intro a hk) | fail))
    rw [show (([(k, 0)] : List (Int × Int)).length : Int) = 1 from rfl] at hk
    replace hk := Kn.kp [0, 8, 9, 10] hk
    replace hS := kidH.of (ks := { ks with w := .no }) (h := h) (L := OwT 72 [((k, 0) : Int × Int)] v8 :: L) (hS.sub (by (repeat (first | exact Sub.nil | exact Sub.refl | refine Sub.cons (by (repeat (first | exact At.here | apply At.there))) ?_))))
    refine wp_for 1 (fun j _ => [(10, .int .i64 (j : Int))]) (fun j y => kidH bk bs y :: OwT 72 [((k, 0) : Int × Int)] v8 :: L) (fun j y => y = if j = 0 then { ks with w := .no } else doneK { ks with w := .no } (dueO k ks.s)) { ks with w := .no } hk (by repeat (first | exact trivial | refine ⟨rfl, ?_⟩)) (hS.sub .refl) rfl ?_
    clear hk hS a
    rintro j y a w hj hk hS hy
    (try simp only at hy)
    by_cases j0 : j = 0
    · subst j0
      simp only [if_true] at hy
      subst hy
      obtain ⟨h2, hS1⟩ := hS.kid (bk := bk) (bs := bs) (ks := { ks with w := .no }) (by (repeat (first | exact At.here | apply At.there)))
      clear hS
      have hS := hS1
      clear hS1
      simp only [kidL, List.cons_append, List.nil_append] at hS
      have hx1 : [((k, 0) : Int × Int)][0]? = some (k, 0) := rfl
      (repeat' (first | (show wpListIn _ _ _ _ _ (_ :: _) _ _; first | (refine wx1 ?_; clear hk a; intro a hk) | (refine wx2 ?_ ?_ <;> (intro hp; clear hk a; intro a hk)) | (refine wx3 ?_; clear hk hS a; intro w b hS a hk) | (refine wx4 ?_; clear hk hS a; intro w hS a hk) | (refine wx5 ?_; clear hk hS a; intro w v hS a hk) | fail) | refine wx0 ?_ | (refine s_end hk ?_; clear hk a; intro a hk) | fail))
      · have ed : dueO k ks.s = frameP ks.s := if_pos hp
        have hl0 : (frameP ks.s).hk.length ≤ 100 := by rw [← ed, due_hk]; exact Nat.zero_le _
        rw [ed] at e4 ⊢
        clear e3
        replace hS := kidH.of (ks := { ks with w := .no }) (h := h2) (L := OwT 72 [((k, 0) : Int × Int)] v8 :: L) (hS.sub (.cons (by (repeat (first | exact At.here | apply At.there))) (.cons (by (repeat (first | exact At.here | apply At.there))) (.cons (by (repeat (first | exact At.here | apply At.there))) (.cons (by (repeat (first | exact At.here | apply At.there))) (by (repeat (first | exact Sub.refl | apply Sub.under))))))))
        refine sg hk (g_callO hk (hf := by kernel_rfl) (hc := frame21_any ks.s B _ w hS) (h := ?_)); clear hk hS a; rintro _ w ⟨h3, rfl, hS⟩ a hk
        refine sg hk (g_callO hk (hf := by kernel_rfl) (hc := done_any (bk := bk) (bs := bs) (ks := { ks with w := .no }) (o := frameP ks.s) (ho := h3) e4 hwl hql hto hl0 hS) (h := ?_)); clear hk hS a; intro _ w hS a hk
        (repeat' (first | (show wpListIn _ _ _ _ _ (_ :: _) _ _; first | (refine wx1 ?_; clear hk a; intro a hk) | (refine wx2 ?_ ?_ <;> (intro hp; clear hk a; intro a hk)) | (refine wx3 ?_; clear hk hS a; intro w b hS a hk) | (refine wx4 ?_; clear hk hS a; intro w hS a hk) | (refine wx5 ?_; clear hk hS a; intro w v hS a hk) | fail) | refine wx0 ?_ | (refine s_end hk ?_; clear hk a; intro a hk) | fail))
        exact ⟨by omega, _, hk.sd, hS, by rw [if_neg (by omega)]⟩
      · have ed : dueO k ks.s = mframeP ks.s := if_neg hp
        have hl0 : (mframeP ks.s).hk.length ≤ 100 := by rw [← ed, due_hk]; exact Nat.zero_le _
        rw [ed] at e4 ⊢
        clear e3
        replace hS := kidH.of (ks := { ks with w := .no }) (h := h2) (L := OwT 72 [((k, 0) : Int × Int)] v8 :: L) (hS.sub (.cons (by (repeat (first | exact At.here | apply At.there))) (.cons (by (repeat (first | exact At.here | apply At.there))) (.cons (by (repeat (first | exact At.here | apply At.there))) (.cons (by (repeat (first | exact At.here | apply At.there))) (by (repeat (first | exact Sub.refl | apply Sub.under))))))))
        refine sg hk (g_callO hk (hf := by kernel_rfl) (hc := mframe21_any ks.s B _ w hS) (h := ?_)); clear hk hS a; rintro _ w ⟨h3, rfl, hS⟩ a hk
        refine sg hk (g_callO hk (hf := by kernel_rfl) (hc := done_any (bk := bk) (bs := bs) (ks := { ks with w := .no }) (o := mframeP ks.s) (ho := h3) e4 hwl hql hto hl0 hS) (h := ?_)); clear hk hS a; intro _ w hS a hk
        (repeat' (first | (show wpListIn _ _ _ _ _ (_ :: _) _ _; first | (refine wx1 ?_; clear hk a; intro a hk) | (refine wx2 ?_ ?_ <;> (intro hp; clear hk a; intro a hk)) | (refine wx3 ?_; clear hk hS a; intro w b hS a hk) | (refine wx4 ?_; clear hk hS a; intro w hS a hk) | (refine wx5 ?_; clear hk hS a; intro w v hS a hk) | fail) | refine wx0 ?_ | (refine s_end hk ?_; clear hk a; intro a hk) | fail))
        exact ⟨by omega, _, hk.sd, hS, by rw [if_neg (by omega)]⟩
    · have : j = 1 := by omega
      subst this
      rw [if_neg j0] at hy
      subst hy
      (repeat' (first | (show wpListIn _ _ _ _ _ (_ :: _) _ _; first | (refine wx1 ?_; clear hk a; intro a hk) | (refine wx2 ?_ ?_ <;> (intro hp; clear hk a; intro a hk)) | (refine wx3 ?_; clear hk hS a; intro w b hS a hk) | (refine wx4 ?_; clear hk hS a; intro w hS a hk) | (refine wx5 ?_; clear hk hS a; intro w v hS a hk) | fail) | refine wx0 ?_ | (refine s_end hk ?_; clear hk a; intro a hk) | fail))
      exact done0n hk (h := hS.sub (.cons (by (repeat (first | exact At.here | apply At.there))) (by (repeat (first | exact Sub.refl | apply Sub.under)))))
end
end Go.Proofs.YthodcfdgahfniaaGreat
namespace Go.Proofs.YthodcfdgahfniaaGreat
open Go.RowKit
set_option maxRecDepth 100000
attribute [local irreducible] Go.Code.wpIn Go.wpListIn Go.Calls Gives Go.Exit.then Go.Exit.inBlock Done ObxE

theorem over_j (k : Int) (s : PS) : (overO k s).j = 0 ∧ (overO k s).mj = 0 := by
  have hu : ∀ o : PO, (unmvP o).j = o.j ∧ (unmvP o).mj = o.mj := fun o => by unfold unmvP; split <;> exact ⟨rfl, rfl⟩
  have h0 : (outP s).j = 0 ∧ (outP s).mj = 0 := ⟨rfl, rfl⟩
  unfold overO
  split
  · unfold finishP; split
    · unfold endP; split
      · exact ⟨rfl, rfl⟩
      · split <;> exact ⟨rfl, rfl⟩
    · exact h0
  · unfold mfinishP; split
    · exact ⟨(hu _).1, (hu _).2⟩
    · exact h0
theorem cut_no (r : Bool × Int) : cutW r .no = .no := rfl
theorem pop_no (ks : KS) (d k : Int) : (popK ks d k).w = .no := by
  obtain ⟨h1, h2⟩ := over_j k ks.s
  unfold popK doneK jobK
  rw [h1, h2]
  unfold askK
  simp only [if_neg (show ¬ (0 : Int) = 1 by omega), if_neg (show ¬ (0 : Int) = 2 by omega)]
  unfold offK
  simp only [cut_no, ite_self]
theorem due_none {u : Int} {x : Wt} (h : dueW u x = none) : restW u x = x ∧ ∀ t d k, x = .tm t d k → ¬ d ≤ u := by
  cases x with
  | tm t d k =>
    unfold dueW at h
    simp only at h
    split at h
    · cases h
    · rename_i hd
      exact ⟨if_neg hd, fun t' d' k' e => by cases e; exact hd⟩
  | no => exact ⟨rfl, fun _ _ _ e => by cases e⟩
  | q1 t k => exact ⟨rfl, fun _ _ _ e => by cases e⟩
  | q0 t k => exact ⟨rfl, fun _ _ _ e => by cases e⟩
theorem due_some {u t d k : Int} {x : Wt} (h : dueW u x = some (t, d, k)) : x = .tm t d k ∧ d ≤ u ∧ restW u x = .no := by
  cases x with
  | tm t' d' k' =>
    unfold dueW at h
    simp only at h
    split at h
    · rename_i hd
      cases h
      exact ⟨rfl, hd, if_pos hd⟩
    · cases h
  | no => cases h
  | q1 t k => cases h
  | q0 t k => cases h
theorem tick_none {ks : KS} {n : Int} (h : dueW (ks.now + n) ks.w = none) : tickK ks n = { ks with now := ks.now + n } := by
  have h2 := (due_none h).2
  unfold tickK
  cases hx : ks.w with
  | tm t d k => exact if_neg (h2 t d k hx)
  | no => rfl
  | q1 t k => rfl
  | q0 t k => rfl
section
variable {B : Bs} {w : World} {L L' : List HP}
set_option maxHeartbeats 2000000 in
theorem ktick_any {bk bs : Nat} {ks : KS} {n : Int} (hask : tckAsk ks n) (hn0 : 0 ≤ ks.now) (hn1 : 0 ≤ n) (hn2 : ks.now + n ≤ 1000000000) (hwl : 0 ≤ ks.wl ∧ ks.wl ≤ 900000) (hql : 0 ≤ ks.ql ∧ ks.ql ≤ 900000) (hto : ks.told.length ≤ 900000)
    (hS : St B (kidH bk bs ks :: L) w) :
    Calls Tryz.prog 9 #[ptV bk, .int .i64 n] w (Ret fun _ w' => St B (kidH bk bs (tickK ks n) :: L) w') := by
  obtain ⟨h, hS1⟩ := hS.kid (bk := bk) (bs := bs) (ks := ks) (by (repeat (first | exact At.here | apply At.there)))
  clear hS
  have hS := hS1
  clear hS1
  simp only [kidL, List.cons_append, List.nil_append] at hS
  have hm : max ks.now (min (ks.now + n) 1099511627776) = ks.now + n := by omega
  refine enter Tryz.func9 rfl Tryz.ntmps9 rfl (fun a hk => ?_)
  (repeat' (first | (show wpListIn _ _ _ _ _ (_ :: _) _ _; first | (refine wx1 ?_; clear hk a; intro a hk) | (refine wx2 ?_ ?_ <;> (intro hp; clear hk a; intro a hk)) | (refine wx3 ?_; clear hk hS a; intro w b hS a hk) | (refine wx4 ?_; clear hk hS a; intro w hS a hk) | (refine wx5 ?_; clear hk hS a; intro w v hS a hk) | fail) | refine wx0 ?_ | (refine s_end hk ?_; clear hk a; intro a hk) | fail))
  refine sg hk (g_callO hk (hf := by kernel_rfl) (hc := now_any (bs := bs) (now := ks.now) (wl := ks.wl) (ql := ks.ql) (x := ks.w) _ (hS.rd (by (repeat (first | exact At.here | apply At.there))))) (h := ?_)); clear hk a; rintro _ w ⟨rfl, hS1⟩ a hk; replace hS := hS.call0 hS1; clear hS1
  (repeat' (first | (show wpListIn _ _ _ _ _ (_ :: _) _ _; first | (refine wx1 ?_; clear hk a; intro a hk) | (refine wx2 ?_ ?_ <;> (intro hp; clear hk a; intro a hk)) | (refine wx3 ?_; clear hk hS a; intro w b hS a hk) | (refine wx4 ?_; clear hk hS a; intro w hS a hk) | (refine wx5 ?_; clear hk hS a; intro w v hS a hk) | fail) | refine wx0 ?_ | (refine s_end hk ?_; clear hk a; intro a hk) | fail))
  replace hk := Kn.kp [0, 4, 14] hk
  replace hS := kidH.of (ks := ks) (h := h) (L := L) (hS.sub (by (repeat (first | exact Sub.nil | exact Sub.refl | refine Sub.cons (by (repeat (first | exact At.here | apply At.there))) ?_))))
  refine wp_for 100 (fun j _ => [(14, .int .i64 (j : Int))]) (fun j y => kidH bk bs y :: L) (fun j y => (j = 0 ∧ y = ks) ∨ (j = 1 ∧ ∃ t d k, ks.w = .tm t d k ∧ d ≤ ks.now + n ∧ y = popK ks d k)) ks hk (by repeat (first | exact trivial | refine ⟨rfl, ?_⟩)) (hS.sub .refl) (.inl ⟨rfl, rfl⟩) ?_
  clear hk hS a
  rintro j y a w hj hk hS hy
  (try simp only at hy)
  rcases hy with ⟨rfl, rfl⟩ | ⟨rfl, t, d, k, hx, hd, rfl⟩
  · obtain ⟨h2, hS1⟩ := hS.kid (bk := bk) (bs := bs) (ks := y) (by (repeat (first | exact At.here | apply At.there)))
    clear hS
    have hS := hS1
    clear hS1
    simp only [kidL, List.cons_append, List.nil_append] at hS
    (repeat' (first | (show wpListIn _ _ _ _ _ (_ :: _) _ _; first | (refine wx1 ?_; clear hk a; intro a hk) | (refine wx2 ?_ ?_ <;> (intro hp; clear hk a; intro a hk)) | (refine wx3 ?_; clear hk hS a; intro w b hS a hk) | (refine wx4 ?_; clear hk hS a; intro w hS a hk) | (refine wx5 ?_; clear hk hS a; intro w v hS a hk) | fail) | refine wx0 ?_ | (refine s_end hk ?_; clear hk a; intro a hk) | fail))
    refine sg hk (g_callO hk (hf := by kernel_rfl) (hc := until_any (bs := bs) (now := y.now) (wl := y.wl) (ql := y.ql) (u := y.now + n) (x := y.w) (hS.sub (.cons (by (repeat (first | exact At.here | apply At.there))) .refl))) (h := ?_)); clear hk hS a; rintro _ w ⟨rfl, hS⟩ a hk
    unfold untV at hk
    unfold untN at hS
    rw [hm] at hk hS
    cases hdw : dueW (y.now + n) y.w with
    | none =>
      rw [hdw] at hk hS
      simp only at hk hS
      rw [(due_none hdw).1] at hS
      rw [tick_none hdw]
      (repeat' (first | (show wpListIn _ _ _ _ _ (_ :: _) _ _; first | (refine wx1 ?_; clear hk a; intro a hk) | (refine wx2 ?_ ?_ <;> (intro hp; clear hk a; intro a hk)) | (refine wx3 ?_; clear hk hS a; intro w b hS a hk) | (refine wx4 ?_; clear hk hS a; intro w hS a hk) | (refine wx5 ?_; clear hk hS a; intro w v hS a hk) | fail) | refine wx0 ?_ | (refine s_end hk ?_; clear hk a; intro a hk) | fail))
      replace hS := kidH.of (ks := { y with now := y.now + n }) (h := h2) (L := L) (hS.sub (.cons (by (repeat (first | exact At.here | apply At.there))) (.cons (by (repeat (first | exact At.here | apply At.there))) (.cons (by (repeat (first | exact At.here | apply At.there))) (by (repeat (first | exact Sub.refl | apply Sub.under)))))))
      exact done0 hk (h := hS)
    | some z =>
      obtain ⟨t, d, k⟩ := z
      obtain ⟨e1, e2, e3⟩ := due_some hdw
      rw [hdw] at hk hS
      simp only at hk hS
      rw [e3] at hS
      have e4 : askable { y with w := .no, now := max y.now d } (overO k y.s) := by unfold tckAsk at hask; rw [e1] at hask; exact hask e2
      have hpop : popK y d k = doneK { y with w := .no, now := max y.now d } (overO k y.s) := rfl
      (repeat' (first | (show wpListIn _ _ _ _ _ (_ :: _) _ _; first | (refine wx1 ?_; clear hk a; intro a hk) | (refine wx2 ?_ ?_ <;> (intro hp; clear hk a; intro a hk)) | (refine wx3 ?_; clear hk hS a; intro w b hS a hk) | (refine wx4 ?_; clear hk hS a; intro w hS a hk) | (refine wx5 ?_; clear hk hS a; intro w v hS a hk) | fail) | refine wx0 ?_ | (refine s_end hk ?_; clear hk a; intro a hk) | fail))
      · have ed : overO k y.s = finishP y.s := if_pos hp
        have hl0 : (finishP y.s).hk.length ≤ 100 := by rw [← ed]; have := over_hk k y.s; omega
        rw [ed] at e4 hpop
        replace hS := kidH.of (ks := { y with w := .no, now := max y.now d }) (h := h2) (L := L) (hS.sub (.cons (by (repeat (first | exact At.here | apply At.there))) (.cons (by (repeat (first | exact At.here | apply At.there))) (.cons (by (repeat (first | exact At.here | apply At.there))) (by (repeat (first | exact Sub.refl | apply Sub.under)))))))
        refine sg hk (g_callO hk (hf := by kernel_rfl) (hc := finish21_any y.s B _ w hS) (h := ?_)); clear hk hS a; rintro _ w ⟨h3, rfl, hS⟩ a hk
        refine sg hk (g_callO hk (hf := by kernel_rfl) (hc := done_any (bk := bk) (bs := bs) (ks := { y with w := .no, now := max y.now d }) (o := finishP y.s) (ho := h3) e4 hwl hql hto hl0 hS) (h := ?_)); clear hk hS a; intro _ w hS a hk
        (repeat' (first | (show wpListIn _ _ _ _ _ (_ :: _) _ _; first | (refine wx1 ?_; clear hk a; intro a hk) | (refine wx2 ?_ ?_ <;> (intro hp; clear hk a; intro a hk)) | (refine wx3 ?_; clear hk hS a; intro w b hS a hk) | (refine wx4 ?_; clear hk hS a; intro w hS a hk) | (refine wx5 ?_; clear hk hS a; intro w v hS a hk) | fail) | refine wx0 ?_ | (refine s_end hk ?_; clear hk a; intro a hk) | fail))
        exact ⟨by omega, _, hk.sd, hS, .inr ⟨rfl, t, d, k, e1, e2, hpop.symm⟩⟩
      · have ed : overO k y.s = mfinishP y.s := if_neg hp
        have hl0 : (mfinishP y.s).hk.length ≤ 100 := by rw [← ed]; have := over_hk k y.s; omega
        rw [ed] at e4 hpop
        replace hS := kidH.of (ks := { y with w := .no, now := max y.now d }) (h := h2) (L := L) (hS.sub (.cons (by (repeat (first | exact At.here | apply At.there))) (.cons (by (repeat (first | exact At.here | apply At.there))) (.cons (by (repeat (first | exact At.here | apply At.there))) (by (repeat (first | exact Sub.refl | apply Sub.under)))))))
        refine sg hk (g_callO hk (hf := by kernel_rfl) (hc := mfinish21_any y.s B _ w hS) (h := ?_)); clear hk hS a; rintro _ w ⟨h3, rfl, hS⟩ a hk
        refine sg hk (g_callO hk (hf := by kernel_rfl) (hc := done_any (bk := bk) (bs := bs) (ks := { y with w := .no, now := max y.now d }) (o := mfinishP y.s) (ho := h3) e4 hwl hql hto hl0 hS) (h := ?_)); clear hk hS a; intro _ w hS a hk
        (repeat' (first | (show wpListIn _ _ _ _ _ (_ :: _) _ _; first | (refine wx1 ?_; clear hk a; intro a hk) | (refine wx2 ?_ ?_ <;> (intro hp; clear hk a; intro a hk)) | (refine wx3 ?_; clear hk hS a; intro w b hS a hk) | (refine wx4 ?_; clear hk hS a; intro w hS a hk) | (refine wx5 ?_; clear hk hS a; intro w v hS a hk) | fail) | refine wx0 ?_ | (refine s_end hk ?_; clear hk a; intro a hk) | fail))
        exact ⟨by omega, _, hk.sd, hS, .inr ⟨rfl, t, d, k, e1, e2, hpop.symm⟩⟩
  · have e1 : tickK ks n = { popK ks d k with now := ks.now + n } := by
      unfold tickK
      rw [hx]
      exact if_pos hd
    have e2 := pop_no ks d k
    have e3 : (popK ks d k).now = max ks.now d := (done_num _ _).1
    rw [e1]
    generalize popK ks d k = y at hS e2 e3
    obtain ⟨h2, hS1⟩ := hS.kid (bk := bk) (bs := bs) (ks := y) (by (repeat (first | exact At.here | apply At.there)))
    clear hS
    have hS := hS1
    clear hS1
    simp only [kidL, List.cons_append, List.nil_append] at hS
    rw [e2] at hS
    (repeat' (first | (show wpListIn _ _ _ _ _ (_ :: _) _ _; first | (refine wx1 ?_; clear hk a; intro a hk) | (refine wx2 ?_ ?_ <;> (intro hp; clear hk a; intro a hk)) | (refine wx3 ?_; clear hk hS a; intro w b hS a hk) | (refine wx4 ?_; clear hk hS a; intro w hS a hk) | (refine wx5 ?_; clear hk hS a; intro w v hS a hk) | fail) | refine wx0 ?_ | (refine s_end hk ?_; clear hk a; intro a hk) | fail))
    refine sg hk (g_callO hk (hf := by kernel_rfl) (hc := until_any (bs := bs) (now := y.now) (wl := y.wl) (ql := y.ql) (u := ks.now + n) (x := .no) (hS.sub (.cons (by (repeat (first | exact At.here | apply At.there))) .refl))) (h := ?_)); clear hk hS a; rintro _ w ⟨rfl, hS⟩ a hk
    simp only [untV, untN, dueW, restW] at hk hS
    rw [show max y.now (min (ks.now + n) 1099511627776) = ks.now + n by omega] at hS
    (repeat' (first | (show wpListIn _ _ _ _ _ (_ :: _) _ _; first | (refine wx1 ?_; clear hk a; intro a hk) | (refine wx2 ?_ ?_ <;> (intro hp; clear hk a; intro a hk)) | (refine wx3 ?_; clear hk hS a; intro w b hS a hk) | (refine wx4 ?_; clear hk hS a; intro w hS a hk) | (refine wx5 ?_; clear hk hS a; intro w v hS a hk) | fail) | refine wx0 ?_ | (refine s_end hk ?_; clear hk a; intro a hk) | fail))
    replace hS := kidH.of (ks := { y with now := ks.now + n }) (h := h2) (L := L) (by
      simp only [kidL, List.cons_append, List.nil_append]
      rw [e2]
      exact hS.sub (.cons (by (repeat (first | exact At.here | apply At.there))) (.cons (by (repeat (first | exact At.here | apply At.there))) (.cons (by (repeat (first | exact At.here | apply At.there))) (by (repeat (first | exact Sub.refl | apply Sub.under)))))))
    exact done0 hk (h := hS)
end
end Go.Proofs.YthodcfdgahfniaaGreat
namespace Go.Proofs.YthodcfdgahfniaaGreat
open Go.RowKit
set_option maxRecDepth 100000
attribute [local irreducible] Go.Code.wpIn Go.wpListIn Go.Calls Gives Go.Exit.then Go.Exit.inBlock Done ObxE

theorem take_snocC {α : Type} {l : List α} {i : Nat} {x : α} (h : l[i]? = some x) : l.take (i + 1) = l.take i ++ [x] := by rw [List.take_add_one, h]; rfl
theorem idxS_any (l : List ByteArray) (c : ByteArray) (v : Value) (w0 : World) (hv : SlT l v w0) (hl : l.length ≤ 100000) :
    Calls Tryz.prog 116 #[v, .string c] w0 (Ret fun v w => (∃ p : Int, v = .int .i64 p ∧ (0 ≤ p ↔ c ∈ l) ∧ -1 ≤ p) ∧ St w0 [] w) := by
  refine enter Tryz.func116 rfl Tryz.ntmps116 rfl (fun a hk => ?_); have hS := St.refl w0
  (repeat' (first | (show wpListIn _ _ _ _ _ (_ :: _) _ _; first | (refine wx1 ?_; clear hk a; intro a hk) | (refine wx2 ?_ ?_ <;> (intro hp; clear hk a; intro a hk)) | (refine wx3 ?_; clear hk hS a; intro w b hS a hk) | (refine wx4 ?_; clear hk hS a; intro w hS a hk) | (refine wx5 ?_; clear hk hS a; intro w v hS a hk) | fail) | refine wx0 ?_ | (refine s_end hk ?_; clear hk a; intro a hk) | fail))
  replace hk := Kn.kp [0, 1, 7, 8] hk
  refine wp_for l.length (fun i _ => [(8, .int .i64 (i : Int))]) (fun _ _ => []) (fun i _ => c ∉ l.take i) () hk (by repeat (first | exact trivial | refine ⟨rfl, ?_⟩)) hS.sb (by simp) ?_
  clear hk hS a
  rintro i - a w hi hk hS hF
  have hv1 := hS.rdT hv
  by_cases hil : i < l.length
  · obtain ⟨x, hx⟩ : ∃ x, l[i]? = some x := ⟨_, List.getElem?_eq_getElem hil⟩
    (repeat' (first | (show wpListIn _ _ _ _ _ (_ :: _) _ _; first | (refine wx1 ?_; clear hk a; intro a hk) | (refine wx2 ?_ ?_ <;> (intro hp; clear hk a; intro a hk)) | (refine wx3 ?_; clear hk hS a; intro w b hS a hk) | (refine wx4 ?_; clear hk hS a; intro w hS a hk) | (refine wx5 ?_; clear hk hS a; intro w v hS a hk) | fail) | refine wx0 ?_ | (refine s_end hk ?_; clear hk a; intro a hk) | fail))
    · have e : c = x := by assumption
      exact done1 hk (h := ⟨⟨_, rfl, ⟨fun _ => by rw [e]; exact List.mem_of_getElem? hx, fun _ => by omega⟩, by omega⟩, hS.nil⟩)
    · have e : ¬ c = x := by assumption
      exact ⟨hil, (), hk.sd, hS.sb, by rw [take_snocC hx, List.mem_append, List.mem_singleton]; rintro (h | h); exact hF h; exact e h⟩
  · have : i = l.length := by omega
    subst this
    rw [List.take_length] at hF
    (repeat' (first | (show wpListIn _ _ _ _ _ (_ :: _) _ _; first | (refine wx1 ?_; clear hk a; intro a hk) | (refine wx2 ?_ ?_ <;> (intro hp; clear hk a; intro a hk)) | (refine wx3 ?_; clear hk hS a; intro w b hS a hk) | (refine wx4 ?_; clear hk hS a; intro w hS a hk) | (refine wx5 ?_; clear hk hS a; intro w v hS a hk) | fail) | refine wx0 ?_ | (refine s_end hk ?_; clear hk a; intro a hk) | fail))
    exact done1 hk (h := ⟨⟨-1, rfl, ⟨fun h => by omega, fun h => absurd h hF⟩, by omega⟩, hS.nil⟩)
open Classical in
theorem hasC_any (l : List ByteArray) (c : ByteArray) (v : Value) (w0 : World) (hv : SlT l v w0) (hl : l.length ≤ 100000) :
    Calls Tryz.prog 90 #[v, .string c] w0 (Ret fun v w => v = .bool (decide (c ∈ l)) ∧ St w0 [] w) := by
  have con : ∀ w0, SlT l v w0 → Calls Tryz.prog 103 #[v, .string c] w0 (Ret fun v w => v = .bool (decide (c ∈ l)) ∧ St w0 [] w) := by
    intro w0 hv
    refine enter Tryz.func103 rfl Tryz.ntmps103 rfl (fun a hk => ?_); have hS := St.refl w0
    (repeat' (first | (show wpListIn _ _ _ _ _ (_ :: _) _ _; first | (refine wx1 ?_; clear hk a; intro a hk) | (refine wx2 ?_ ?_ <;> (intro hp; clear hk a; intro a hk)) | (refine wx3 ?_; clear hk hS a; intro w b hS a hk) | (refine wx4 ?_; clear hk hS a; intro w hS a hk) | (refine wx5 ?_; clear hk hS a; intro w v hS a hk) | fail) | refine wx0 ?_ | (refine s_end hk ?_; clear hk a; intro a hk) | fail))
    refine sg hk (g_callO hk (hf := by kernel_rfl) (hc := idxS_any l c v _ (hS.rdT hv) hl) (h := ?_)); clear hk a; rintro vr w ⟨⟨p, rfl, hp, hp1⟩, hS1⟩ a hk; replace hS := hS.call hS1; clear hS1
    by_cases hin : c ∈ l
    · have := hp.2 hin
      (repeat' (first | (show wpListIn _ _ _ _ _ (_ :: _) _ _; first | (refine wx1 ?_; clear hk a; intro a hk) | (refine wx2 ?_ ?_ <;> (intro hp; clear hk a; intro a hk)) | (refine wx3 ?_; clear hk hS a; intro w b hS a hk) | (refine wx4 ?_; clear hk hS a; intro w hS a hk) | (refine wx5 ?_; clear hk hS a; intro w v hS a hk) | fail) | refine wx0 ?_ | (refine s_end hk ?_; clear hk a; intro a hk) | fail))
      exact done1 hk (h := ⟨by rw [decide_eq_true hin], hS.nil⟩)
    · have : ¬ 0 ≤ p := fun h => hin (hp.1 h)
      (repeat' (first | (show wpListIn _ _ _ _ _ (_ :: _) _ _; first | (refine wx1 ?_; clear hk a; intro a hk) | (refine wx2 ?_ ?_ <;> (intro hp; clear hk a; intro a hk)) | (refine wx3 ?_; clear hk hS a; intro w b hS a hk) | (refine wx4 ?_; clear hk hS a; intro w hS a hk) | (refine wx5 ?_; clear hk hS a; intro w v hS a hk) | fail) | refine wx0 ?_ | (refine s_end hk ?_; clear hk a; intro a hk) | fail))
      exact done1 hk (h := ⟨by rw [decide_eq_false hin], hS.nil⟩)
  refine enter Tryz.func90 rfl Tryz.ntmps90 rfl (fun a hk => ?_); have hS := St.refl w0
  (repeat' (first | (show wpListIn _ _ _ _ _ (_ :: _) _ _; first | (refine wx1 ?_; clear hk a; intro a hk) | (refine wx2 ?_ ?_ <;> (intro hp; clear hk a; intro a hk)) | (refine wx3 ?_; clear hk hS a; intro w b hS a hk) | (refine wx4 ?_; clear hk hS a; intro w hS a hk) | (refine wx5 ?_; clear hk hS a; intro w v hS a hk) | fail) | refine wx0 ?_ | (refine s_end hk ?_; clear hk a; intro a hk) | fail))
  refine sg hk (g_callO hk (hf := by kernel_rfl) (hc := con _ (hS.rdT hv)) (h := ?_)); clear hk a; rintro _ w ⟨rfl, hS1⟩ a hk; replace hS := hS.call0 hS1; clear hS1
  (repeat' (first | (show wpListIn _ _ _ _ _ (_ :: _) _ _; first | (refine wx1 ?_; clear hk a; intro a hk) | (refine wx2 ?_ ?_ <;> (intro hp; clear hk a; intro a hk)) | (refine wx3 ?_; clear hk hS a; intro w b hS a hk) | (refine wx4 ?_; clear hk hS a; intro w hS a hk) | (refine wx5 ?_; clear hk hS a; intro w v hS a hk) | fail) | refine wx0 ?_ | (refine s_end hk ?_; clear hk a; intro a hk) | fail))
  exact done1 hk (h := ⟨rfl, hS.nil⟩)
theorem cloneS_any (l : List ByteArray) (v : Value) (w0 : World) (hv : SlT l v w0) (hl : l.length ≤ 1000) :
    Calls Tryz.prog 89 #[v] w0 (Ret fun v w => St w0 [OwT 9 l v] w) := by
  obtain ⟨ao, c, rfl, hao, _, _⟩ := hv.shape
  refine enter Tryz.func89 rfl Tryz.ntmps89 rfl (fun a hk => ?_); have hS := St.refl w0
  (repeat' (first | (show wpListIn _ _ _ _ _ (_ :: _) _ _; first | (refine wx1 ?_; clear hk a; intro a hk) | (refine wx2 ?_ ?_ <;> (intro hp; clear hk a; intro a hk)) | (refine wx3 ?_; clear hk hS a; intro w b hS a hk) | (refine wx4 ?_; clear hk hS a; intro w hS a hk) | (refine wx5 ?_; clear hk hS a; intro w v hS a hk) | fail) | refine wx0 ?_ | (refine s_end hk ?_; clear hk a; intro a hk) | fail))
  refine sg hk (g_eqN hk ?_ (hT := eT rfl)); clear hk a; intro a hk
  cases ao with
  | none =>
    obtain ⟨h1, _⟩ := hao rfl
    subst h1
    (repeat' (first | (show wpListIn _ _ _ _ _ (_ :: _) _ _; first | (refine wx1 ?_; clear hk a; intro a hk) | (refine wx2 ?_ ?_ <;> (intro hp; clear hk a; intro a hk)) | (refine wx3 ?_; clear hk hS a; intro w b hS a hk) | (refine wx4 ?_; clear hk hS a; intro w hS a hk) | (refine wx5 ?_; clear hk hS a; intro w v hS a hk) | fail) | refine wx0 ?_ | (refine s_end hk ?_; clear hk a; intro a hk) | fail))
    exact done1 hk (h := hS.nilT 9 ByteArray)
  | some ad =>
    (repeat' (first | (show wpListIn _ _ _ _ _ (_ :: _) _ _; first | (refine wx1 ?_; clear hk a; intro a hk) | (refine wx2 ?_ ?_ <;> (intro hp; clear hk a; intro a hk)) | (refine wx3 ?_; clear hk hS a; intro w b hS a hk) | (refine wx4 ?_; clear hk hS a; intro w hS a hk) | (refine wx5 ?_; clear hk hS a; intro w v hS a hk) | fail) | refine wx0 ?_ | (refine s_end hk ?_; clear hk a; intro a hk) | fail))
    refine sg hk (g_bs0 ByteArray hS ?_ (hT := eT rfl) (hE := zT rfl)); clear hk hS a; intro w v0 hS a hk
    refine sg hk (g_move hk ?_); clear hk a; intro a hk
    refine sg hk (g_appT (xs := ([] : List ByteArray)) (ys := l) hk hS ?_ (hT := eT rfl) (hTx := eT rfl) (hE := zT rfl) (hz := oT rfl) (hzs := rfl) (hs := hS.rdT hv) (hby := bT rfl) (hbytes := by simp only [List.length_nil]; omega) (h63 := by simp only [maxLen, List.length_nil]; omega)); clear hk hS a; intro w v1 hS a hk
    rw [List.nil_append] at hS
    (repeat' (first | (show wpListIn _ _ _ _ _ (_ :: _) _ _; first | (refine wx1 ?_; clear hk a; intro a hk) | (refine wx2 ?_ ?_ <;> (intro hp; clear hk a; intro a hk)) | (refine wx3 ?_; clear hk hS a; intro w b hS a hk) | (refine wx4 ?_; clear hk hS a; intro w hS a hk) | (refine wx5 ?_; clear hk hS a; intro w v hS a hk) | fail) | refine wx0 ?_ | (refine s_end hk ?_; clear hk a; intro a hk) | fail))
    exact done1 hk (h := hS)
open Classical in
noncomputable def addC (l : List ByteArray) (c : ByteArray) : List ByteArray := if c ∈ l then l else l ++ [c]
noncomputable def clnC (l : List ByteArray) : List ByteArray := l.foldl addC []
open Classical in
theorem addC_len (l : List ByteArray) (c : ByteArray) : (addC l c).length ≤ l.length + 1 := by
  unfold addC
  split
  · omega
  · simp
theorem clnC_snoc (l : List ByteArray) (c : ByteArray) : clnC (l ++ [c]) = addC (clnC l) c := by simp [clnC]
theorem clnC_len (l : List ByteArray) : ∀ i, (clnC (l.take i)).length ≤ i := by
  have : ∀ (l s : List ByteArray), (l.foldl addC s).length ≤ s.length + l.length := by
    intro l
    induction l with
    | nil => intro s; simp
    | cons x l ih =>
      intro s
      have h1 := ih (addC s x)
      have h2 := addC_len s x
      rw [List.foldl_cons, List.length_cons]; omega
  intro i
  have := this (l.take i) []
  rw [List.length_take, List.length_nil] at this
  unfold clnC; omega
open Classical in
theorem addC_any (l : List ByteArray) (c : ByteArray) (v : Value) (w0 : World) (hv : SlT l v w0) (hl : l.length ≤ 900) :
    Calls Tryz.prog 66 #[v, .string c] w0 (Ret fun v w => St w0 [OwT 9 (addC l c) v] w) := by
  refine enter Tryz.func66 rfl Tryz.ntmps66 rfl (fun a hk => ?_); have hS := St.refl w0
  (repeat' (first | (show wpListIn _ _ _ _ _ (_ :: _) _ _; first | (refine wx1 ?_; clear hk a; intro a hk) | (refine wx2 ?_ ?_ <;> (intro hp; clear hk a; intro a hk)) | (refine wx3 ?_; clear hk hS a; intro w b hS a hk) | (refine wx4 ?_; clear hk hS a; intro w hS a hk) | (refine wx5 ?_; clear hk hS a; intro w v hS a hk) | fail) | refine wx0 ?_ | (refine s_end hk ?_; clear hk a; intro a hk) | fail))
  refine sg hk (g_callO hk (hf := by kernel_rfl) (hc := cloneS_any l v _ (hS.rdT hv) (by omega)) (h := ?_)); clear hk a; rintro vn w hS1 a hk; replace hS := hS.call hS1; clear hS1
  (repeat' (first | (show wpListIn _ _ _ _ _ (_ :: _) _ _; first | (refine wx1 ?_; clear hk a; intro a hk) | (refine wx2 ?_ ?_ <;> (intro hp; clear hk a; intro a hk)) | (refine wx3 ?_; clear hk hS a; intro w b hS a hk) | (refine wx4 ?_; clear hk hS a; intro w hS a hk) | (refine wx5 ?_; clear hk hS a; intro w v hS a hk) | fail) | refine wx0 ?_ | (refine s_end hk ?_; clear hk a; intro a hk) | fail))
  refine sg hk (g_callO hk (hf := by kernel_rfl) (hc := hasC_any l c vn _ (by first | exact St.rdT hS (by assumption) | exact OwT.rd (hS.rd (A := OwT _ _ _) (by (repeat (first | exact At.here | apply At.there)))) | assumption) (by omega)) (h := ?_)); clear hk a; rintro _ w ⟨rfl, hS1⟩ a hk; replace hS := hS.call0 hS1; clear hS1
  by_cases hin : c ∈ l
  · have hc : addC l c = l := by unfold addC; rw [if_pos hin]
    rw [hc]
    rw [decide_eq_true hin] at hk
    (repeat' (first | (show wpListIn _ _ _ _ _ (_ :: _) _ _; first | (refine wx1 ?_; clear hk a; intro a hk) | (refine wx2 ?_ ?_ <;> (intro hp; clear hk a; intro a hk)) | (refine wx3 ?_; clear hk hS a; intro w b hS a hk) | (refine wx4 ?_; clear hk hS a; intro w hS a hk) | (refine wx5 ?_; clear hk hS a; intro w v hS a hk) | fail) | refine wx0 ?_ | (refine s_end hk ?_; clear hk a; intro a hk) | fail))
    exact done1 hk (h := hS.sb)
  · have hc : addC l c = l ++ [c] := by unfold addC; rw [if_neg hin]
    rw [hc]
    rw [decide_eq_false hin] at hk
    (repeat' (first | (show wpListIn _ _ _ _ _ (_ :: _) _ _; first | (refine wx1 ?_; clear hk a; intro a hk) | (refine wx2 ?_ ?_ <;> (intro hp; clear hk a; intro a hk)) | (refine wx3 ?_; clear hk hS a; intro w b hS a hk) | (refine wx4 ?_; clear hk hS a; intro w hS a hk) | (refine wx5 ?_; clear hk hS a; intro w v hS a hk) | fail) | refine wx0 ?_ | (refine s_end hk ?_; clear hk a; intro a hk) | fail))
    exact done1 hk (h := hS.sb)
theorem clean_any (l : List ByteArray) (v : Value) (w0 : World) (hv : SlT l v w0) (hl : l.length ≤ 900) :
    Calls Tryz.prog 42 #[v] w0 (Ret fun v w => St w0 [OwT 9 (clnC l) v] w) := by
  refine enter Tryz.func42 rfl Tryz.ntmps42 rfl (fun a hk => ?_); have hS := St.refl w0
  (repeat' (first | (show wpListIn _ _ _ _ _ (_ :: _) _ _; first | (refine wx1 ?_; clear hk a; intro a hk) | (refine wx2 ?_ ?_ <;> (intro hp; clear hk a; intro a hk)) | (refine wx3 ?_; clear hk hS a; intro w b hS a hk) | (refine wx4 ?_; clear hk hS a; intro w hS a hk) | (refine wx5 ?_; clear hk hS a; intro w v hS a hk) | fail) | refine wx0 ?_ | (refine s_end hk ?_; clear hk a; intro a hk) | fail))
  replace hS := hS.nilT 9 ByteArray
  replace hk := Kn.kp [3, 6, 7, 8] hk
  refine wp_for l.length (fun i v => [(3, v), (8, .int .i64 (i : Int))]) (fun i v => [OwT 9 (clnC (l.take i)) v]) (fun _ _ => True) (.slice none 0 0) hk (by repeat (first | exact trivial | refine ⟨rfl, ?_⟩)) hS.sb trivial ?_
  clear hk hS a
  rintro i vo a w hi hk hS -
  have hcl := clnC_len l i
  by_cases hil : i < l.length
  · obtain ⟨x, hx⟩ : ∃ x, l[i]? = some x := ⟨_, List.getElem?_eq_getElem hil⟩
    have hv1 := hS.rdT hv
    have hst : clnC (l.take (i + 1)) = addC (clnC (l.take i)) x := by rw [take_snocC hx, clnC_snoc]
    (repeat' (first | (show wpListIn _ _ _ _ _ (_ :: _) _ _; first | (refine wx1 ?_; clear hk a; intro a hk) | (refine wx2 ?_ ?_ <;> (intro hp; clear hk a; intro a hk)) | (refine wx3 ?_; clear hk hS a; intro w b hS a hk) | (refine wx4 ?_; clear hk hS a; intro w hS a hk) | (refine wx5 ?_; clear hk hS a; intro w v hS a hk) | fail) | refine wx0 ?_ | (refine s_end hk ?_; clear hk a; intro a hk) | fail))
    refine sg hk (g_callO hk (hf := by kernel_rfl) (hc := addC_any (clnC (l.take i)) x vo _ (by first | exact St.rdT hS (by assumption) | exact OwT.rd (hS.rd (A := OwT _ _ _) (by (repeat (first | exact At.here | apply At.there)))) | assumption) (by omega)) (h := ?_)); clear hk a; rintro vn w hS1 a hk; replace hS := hS.call hS1; clear hS1
    rw [← hst] at hS
    (repeat' (first | (show wpListIn _ _ _ _ _ (_ :: _) _ _; first | (refine wx1 ?_; clear hk a; intro a hk) | (refine wx2 ?_ ?_ <;> (intro hp; clear hk a; intro a hk)) | (refine wx3 ?_; clear hk hS a; intro w b hS a hk) | (refine wx4 ?_; clear hk hS a; intro w hS a hk) | (refine wx5 ?_; clear hk hS a; intro w v hS a hk) | fail) | refine wx0 ?_ | (refine s_end hk ?_; clear hk a; intro a hk) | fail))
    exact ⟨hil, _, hk.sd, hS.sb, trivial⟩
  · have : i = l.length := by omega
    subst this
    rw [List.take_length] at hS
    (repeat' (first | (show wpListIn _ _ _ _ _ (_ :: _) _ _; first | (refine wx1 ?_; clear hk a; intro a hk) | (refine wx2 ?_ ?_ <;> (intro hp; clear hk a; intro a hk)) | (refine wx3 ?_; clear hk hS a; intro w b hS a hk) | (refine wx4 ?_; clear hk hS a; intro w hS a hk) | (refine wx5 ?_; clear hk hS a; intro w v hS a hk) | fail) | refine wx0 ?_ | (refine s_end hk ?_; clear hk a; intro a hk) | fail))
    exact done1 hk (h := hS.sb)
end Go.Proofs.YthodcfdgahfniaaGreat
namespace Go.Proofs.YthodcfdgahfniaaGreat
open Go.RowKit
set_option maxRecDepth 100000
attribute [local irreducible] Go.Code.wpIn Go.wpListIn Go.Calls Gives Go.Exit.then Go.Exit.inBlock Done ObxE

end Go.Proofs.YthodcfdgahfniaaGreat
