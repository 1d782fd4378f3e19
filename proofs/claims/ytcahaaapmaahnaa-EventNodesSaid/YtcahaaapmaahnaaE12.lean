/- Layer 33: who is called: the program. Lists of numbers are compared. Layer 33: the nodes of calls; the law's wake: the program. -/
import Derived.Test.YtcahaaapmaahnaaE11
import Derived.Test.YtcahaaapmaahnaaE06
set_option linter.all false
namespace Go.Proofs.Ytcahaaapmaahnaa
open Go.RowKit
set_option maxRecDepth 100000
attribute [local irreducible] Go.Code.wpIn Go.wpListIn Go.Calls Gives Go.Exit.then Go.Exit.inBlock Done ObxE

def hdOf (v : Value) : Hd := match v with
  | .slice a n c => ⟨a, n, c⟩
  | _ => ⟨none, 0, 0⟩
def RoR (w : World) (rows : List (List Int)) (RH : List Hd) : Prop := RH.length = rows.length ∧ ∀ (i : Nat) (r : List Int) (h : Hd), rows[i]? = some r → RH[i]? = some h → SlT r h.v w
theorem RoR.stays (rows : List (List Int)) (RH : List Hd) : Stays (fun w => RoR w rows RH) := fun _ _ hf hr => ⟨hr.1, fun i r h h1 h2 => (hr.2 i r h h1 h2).frz hf⟩
theorem RoR.nil (w : World) : RoR w [] [] := ⟨rfl, fun i r h h1 _ => by simp at h1⟩
theorem RoR.snoc {w : World} {rows : List (List Int)} {RH : List Hd} {r : List Int} {h : Hd} (hF : RoR w rows RH) (hT : SlT r h.v w) : RoR w (rows ++ [r]) (RH ++ [h]) := by
  refine ⟨by simp [hF.1], fun i t' h' h1 h2 => ?_⟩
  rcases Nat.lt_or_ge i rows.length with hi | hi
  · rw [List.getElem?_append_left hi] at h1
    rw [List.getElem?_append_left (by rw [hF.1]; exact hi)] at h2
    exact hF.2 i t' h' h1 h2
  · rw [List.getElem?_append_right hi] at h1
    rw [List.getElem?_append_right (by rw [hF.1]; exact hi), hF.1] at h2
    cases hj : i - rows.length with
    | zero =>
      rw [hj] at h1 h2
      simp at h1 h2
      subst h1 h2
      exact hT
    | succ j => rw [hj] at h1; simp at h1
abbrev rorH (rows : List (List Int)) (RH : List Hd) : HP := rdH (fun w => RoR w rows RH)
def downF (caps : List Bool) (rows : List (List Int)) (n : Nat) (way : List Int) : List (Int × Int) := way.flatMap (fun id => atF caps rows id true n)
def upF (caps : List Bool) (rows : List (List Int)) (n : Nat) (way : List Int) : List (Int × Int) := way.reverse.flatMap (fun id => atF caps rows id false n)
theorem downF_len (caps : List Bool) (rows : List (List Int)) (n : Nat) : ∀ way : List Int, (downF caps rows n way).length ≤ n * way.length
  | [] => Nat.zero_le _
  | id :: r => by
    have := downF_len caps rows n r
    have h2 := atF_len caps rows id true n
    rw [downF, List.flatMap_cons, List.length_append, List.length_cons, Nat.mul_succ]
    unfold downF at this
    omega
theorem upF_len (caps : List Bool) (rows : List (List Int)) (n : Nat) : ∀ way : List Int, (upF caps rows n way).length ≤ n * way.length
  | [] => Nat.zero_le _
  | id :: r => by
    have := upF_len caps rows n r
    have h2 := atF_len caps rows id false n
    rw [upF, List.reverse_cons, List.flatMap_append, List.flatMap_singleton, List.length_append, List.length_cons, Nat.mul_succ]
    unfold upF at this
    omega
theorem drop_cons {xs : List Int} {i : Nat} {x : Int} (h : xs[i]? = some x) : xs.drop i = x :: xs.drop (i + 1) := by
  obtain ⟨hi, rfl⟩ := List.getElem?_eq_some_iff.1 h
  exact List.drop_eq_getElem_cons hi
theorem St.row {B : Bs} {w : World} {E : Nat} {xs : List Int} {v : Value} (h : St B [OwT E xs v] w) : St B [OwT E xs v, pureH (∃ a n c, v = .slice a n c)] w := by
  obtain ⟨x1, x2, x3, -⟩ := (OwT.rd (h.rd At.here)).shape
  obtain ⟨F, hF, F1, F2, h1, h2, h3, h4, h5⟩ := h.own
  exact ⟨h.below, h.frz, F, hF, F1, fun _ => False, h1, fun _ h => h.elim, fun _ _ h => h, h4, fun _ => False, fun _ => False, fun _ h => h, fun _ h => h, fun _ h _ => h, ⟨fun _ h => h, x1, _, x2, x3⟩, trivial⟩
set_option maxHeartbeats 16000000 in
theorem dispatch33 (g : World) (pts_ : List ByteArray) (Ls : List LsC) (la : Option Addr) (lc : Nat) (t : STree) (h : SnH) (id : Int) (w0 : World) (hpl : PlT t) (hsz : SizeOf.sizeOf t < 800) (hg : Frz g w0) (hr : SrR g t h)
    (hL : SlT Ls (.slice la Ls.length lc) g) (hstop : ∀ x ∈ Ls, x.2.2 = false) (hll : Ls.length = pts_.length) (hl10 : pts_.length ≤ 10) (hsel : ∀ (i : Nat) (x : LsC) (pt : ByteArray), Ls[i]? = some x → pts_[i]? = some pt → SlT [prt pt] x.1.v g)
    (hfit : ∀ pt, (fitT pt t).length ≤ 100) (hway : (pathF t id).length ≤ 20) :
    Calls Try.prog 7 #[snV h, .int .i64 id, .slice la Ls.length lc] w0 (Ret fun v w => St w0 [OwT 26 (downF (Ls.map (fun x => x.2.1)) (pts_.map (fun pt => fitT pt t)) Ls.length (pathF t id) ++ upF (Ls.map (fun x => x.2.1)) (pts_.map (fun pt => fitT pt t)) Ls.length (pathF t id)) v] w) := by
  have hr0 := hr
  obtain ⟨id', k, tag, text, cl, al, sl, kids, a1, m1, a2, m2, a3, m3, a4, m4, H, rfl, rfl, -⟩ := hr.split
  generalize hT : STree.mk id' k tag text cl al sl kids = T at *
  show Calls Try.prog 7 #[.agg #[.int .i64 id', .int .i64 k, .string tag, .string text, .slice a1 cl.length m1, .slice a2 al.length m2, .slice a3 sl.length m3, .slice a4 H.length m4], .int .i64 id, .slice la Ls.length lc] w0 _
  refine enterM Try.func7 rfl Try.ntmps7 rfl (fun a hk => ?_); have hS : St ⟨g, w0⟩ [] w0 := St.reflG hg
  refine wpIn_seq ?_; refine wpIn_region_lit ?_
  refine st_box hk hS ?_; clear hk hS a; intro w b3 hS a hk
  (repeat' (first | (show wpListIn _ _ _ _ _ (_ :: _) _ _; first | (refine wx1 ?_; clear hk a; intro a hk) | (refine wx2 ?_ ?_ <;> (intro hp; clear hk a; intro a hk)) | (refine wx3 ?_; clear hk hS a; intro w b hS a hk) | (refine wx4 ?_; clear hk hS a; intro w hS a hk) | (refine wx5 ?_; clear hk hS a; intro w v hS a hk) | fail) | refine wx0 ?_ | (refine s_end hk ?_; clear hk a; intro a hk) | fail))
  rename Nat => b7
  generalize b = br at hS hk
  generalize hcaps : Ls.map (fun x => x.2.1) = caps at *
  have hrw : ∀ i, ((pts_.take i).map (fun pt => fitT pt T)).length = min i pts_.length := fun i => by rw [List.length_map, List.length_take]
  replace hS : St ⟨g, w0⟩ [pts br [.slice la Ls.length lc, .slice none 0 0, .slice none 0 0, .bool false] 53, pts b7 [.pointer (some ⟨br, 0, none⟩)] 50, pts b3 [.int .i64 id', .int .i64 k, .string tag, .string text, .slice a1 cl.length m1, .slice a2 al.length m2, .slice a3 sl.length m3, .slice a4 H.length m4] 37] w := hS.sub (by (repeat (first | exact Sub.nil | exact Sub.refl | refine Sub.cons (by (repeat (first | exact At.here | apply At.there))) ?_)))
  replace hS := hS.nilT 24 Hd
  replace hS : St ⟨g, w0⟩ [rorH ((pts_.take 0).map (fun pt => fitT pt T)) [], OwT 24 ([] : List Hd) (.slice none 0 0), pts br [.slice la Ls.length lc, .slice none 0 0, .slice none 0 0, .bool false] 53, pts b7 [.pointer (some ⟨br, 0, none⟩)] 50, pts b3 [.int .i64 id', .int .i64 k, .string tag, .string text, .slice a1 cl.length m1, .slice a2 al.length m2, .slice a3 sl.length m3, .slice a4 H.length m4] 37] w := rdH.of (L1 := []) hS fun g _ => RoR.nil g
  replace hk := Kn.kp [1, 3, 7, 18, 19, 20] hk
  refine wp_for Ls.length (fun i _ => [(20, .int .i64 (i : Int))]) (fun i v => [rorH ((pts_.take i).map (fun pt => fitT pt T)) (v.2 : List Hd), OwT 24 v.2 (.slice v.1.1 v.2.length v.1.2), pts br [.slice la Ls.length lc, .slice v.1.1 v.2.length v.1.2, .slice none 0 0, .bool false] 53, pts b7 [.pointer (some ⟨br, 0, none⟩)] 50, pts b3 [.int .i64 id', .int .i64 k, .string tag, .string text, .slice a1 cl.length m1, .slice a2 al.length m2, .slice a3 sl.length m3, .slice a4 H.length m4] 37]) (fun i v => v.2.length = i) (((none, 0), []) : (Option Addr × Nat) × List Hd) hk (by repeat (first | exact trivial | refine ⟨rfl, ?_⟩)) hS rfl ?_
  clear hk hS a
  rintro i ⟨⟨ao, c⟩, RH⟩ a w hi hk hS hRl
  simp only at hS hk hRl
  by_cases hil : i < Ls.length
  · obtain ⟨⟨⟨s1, s2, s3⟩, cp, stp⟩, hx⟩ : ∃ x, Ls[i]? = some x := ⟨_, List.getElem?_eq_getElem hil⟩
    obtain ⟨pt, hpt⟩ : ∃ x, pts_[i]? = some x := ⟨_, List.getElem?_eq_getElem (by omega)⟩
    have hsl := hsel i _ pt hx hpt
    obtain ⟨sa, sc, se, _⟩ := hsl.shape
    injection se with se1 se2 se3
    subst se2
    have hfp := hfit pt
    have hst : (pts_.take (i + 1)).map (fun pt => fitT pt T) = (pts_.take i).map (fun pt => fitT pt T) ++ [fitT pt T] := by rw [take_snoc hpt, List.map_append]; rfl
    have hLw := hL.frz hS.frz
    (repeat' (first | (show wpListIn _ _ _ _ _ (_ :: _) _ _; first | (refine wx1 ?_; clear hk a; intro a hk) | (refine wx2 ?_ ?_ <;> (intro hp; clear hk a; intro a hk)) | (refine wx3 ?_; clear hk hS a; intro w b hS a hk) | (refine wx4 ?_; clear hk hS a; intro w hS a hk) | (refine wx5 ?_; clear hk hS a; intro w v hS a hk) | fail) | refine wx0 ?_ | (refine s_end hk ?_; clear hk a; intro a hk) | fail))
    rename Nat => b9
    replace hS : St ⟨g, w0⟩ [OwT 24 RH (.slice ao RH.length c), rorH ((pts_.take i).map (fun pt => fitT pt T)) RH, pts br [.slice la Ls.length lc, .slice ao RH.length c, .slice none 0 0, .bool false] 53, pts b7 [.pointer (some ⟨br, 0, none⟩)] 50, pts b3 [.int .i64 id', .int .i64 k, .string tag, .string text, .slice a1 cl.length m1, .slice a2 al.length m2, .slice a3 sl.length m3, .slice a4 H.length m4] 37, pts b9 [.slice s1 1 s3, .bool cp, .bool stp] 45] w := hS.sub (by (repeat (first | exact Sub.nil | exact Sub.refl | refine Sub.cons (by (repeat (first | exact At.here | apply At.there))) ?_)))
    refine wp_drawnU1 11 mixed (by kernel_rfl) hk hS ?_; clear hk hS a
    (repeat' (first | (show ObxE _ _ _ _ _ _ _ _ _ (_ :: _) _ _ _; first | refine ox1 ?_ | (refine ox2 ?_ ?_ <;> intro hp) | fail) | fail))
    refine' obe_lnd 10 (p := fun u => ∃ a n c, u = .slice a n c) (V := OwT 3 (fitT pt T)) (fun us a w hk hd hS => ?_) ?_
    · have hk := Kn.vw hk (by repeat (first | exact VW.nil | apply VW.val rfl | apply VW.base rfl rfl | apply VW.res rfl | apply VW.upd rfl | apply VW.cpy rfl | apply VW.dep rfl | apply VW.fn rfl | apply VW.lnd rfl | apply VW.tak rfl))
      exact g_callO hk (hf := by kernel_rfl) (hc := qall33 g pt s1 s3 T (id', k, tag, text, ⟨a1, cl.length, m1⟩, ⟨a2, al.length, m2⟩, ⟨a3, sl.length, m3⟩, ⟨a4, H.length, m4⟩) _ hpl (by omega) hS.frz hsl hr0) (h := fun _ _ h => St.row h)
    refine' obe_dep 32 8 (V := fun u v => OwT 24 [hdOf u] v) (fun us a w hk hd hS => ?_) ?_
    · have hk := Kn.vw hk (by repeat (first | exact VW.nil | apply VW.val rfl | apply VW.base rfl rfl | apply VW.res rfl | apply VW.upd rfl | apply VW.cpy rfl | apply VW.dep rfl | apply VW.fn rfl | apply VW.lnd rfl | apply VW.tak rfl))
      have h1 : (pureH (∃ a n c, us 8 = .slice a n c)).rd w := hd.1
      obtain ⟨F, -, x1, x2, x3, hx⟩ := h1
      simp only [Nat.zero_add, Nat.reduceAdd] at hk ⊢
      rw [hx] at hk ⊢
      exact v_bsT (xs := [(⟨x1, x2, x3⟩ : Hd)]) (m := 0) hk (hT := eT rfl) (hE := zT rfl) (hz := oT rfl)
    refine' obe_takD 33 32 9 8 [OwT 24 RH (.slice ao RH.length c)] (V := fun v => bagH (fun h : Hd => [OwT 24 (RH ++ [h]) v, OwT 3 (fitT pt T) h.v]) (fun _ => True)) (fun us a w X hk hd hp hS hL => ?_) ?_
    · have hk := Kn.vw hk (by repeat (first | exact VW.nil | apply VW.val rfl | apply VW.base rfl rfl | apply VW.res rfl | apply VW.upd rfl | apply VW.cpy rfl | apply VW.dep rfl | apply VW.fn rfl | apply VW.lnd rfl | apply VW.tak rfl))
      obtain ⟨x1, x2, x3, hx⟩ := hp
      have h33 : (OwT 24 [hdOf (us 8)] (us 9)).rd w := hd.2.1
      replace hS : St ⟨g, w0⟩ (OwT 3 (fitT pt T) (us 8) :: OwT 24 RH (.slice ao RH.length c) :: X) w := hS
      rw [hx] at h33 hS
      exact g_appT hk hS (fun w' v' hS' => bagH.of (A := fun h : Hd => [OwT 24 (RH ++ [h]) v', OwT 3 (fitT pt T) h.v]) (x := ⟨x1, x2, x3⟩) (L := X) hS' trivial) rfl rfl (.there .here) (hT := eT rfl) (hTx := eT rfl) (hE := zT rfl) (hz := oT rfl) (hzs := rfl) (hs := OwT.rd h33) (hby := bT rfl) (hbytes := by simp only [List.length_cons, List.length_nil]; omega) (h63 := by simp only [List.length_cons, List.length_nil, maxLen]; omega)
    refine obe_nil ⟨rfl, ?_⟩; intro us a w hk hS
    simp only [resE, Nat.zero_add, Nat.reduceAdd] at hS
    replace hk := Kn.kp [1, 3, 7, 18, 19, 20, 24, 34] hk
    simp only [HV.of, Nat.zero_add, Nat.reduceAdd] at hk
    obtain ⟨⟨x1, x2, x3⟩, -, hS1⟩ := St.bag hS .here
    clear hS
    rw [List.cons_append, List.cons_append, List.nil_append] at hS1
    have hS := hS1
    clear hS1
    generalize us 10 = v34 at hS hk
    obtain ⟨aov34, cv34, hshp, _⟩ := (OwT.rd (hS.rd (A := OwT 24 _ v34) (by (repeat (first | exact At.here | apply At.there))))).shape; subst hshp
    replace hS : St ⟨g, w0⟩ ([OwT 3 (fitT pt T) (Hd.v ⟨x1, x2, x3⟩), rorH ((pts_.take i).map (fun pt => fitT pt T)) RH] ++ [OwT 24 (RH ++ [⟨x1, x2, x3⟩]) (.slice aov34 (RH ++ [(⟨x1, x2, x3⟩ : Hd)]).length cv34), pts br [.slice la Ls.length lc, .slice ao RH.length c, .slice none 0 0, .bool false] 53, pts b7 [.pointer (some ⟨br, 0, none⟩)] 50, pts b3 [.int .i64 id', .int .i64 k, .string tag, .string text, .slice a1 cl.length m1, .slice a2 al.length m2, .slice a3 sl.length m3, .slice a4 H.length m4] 37]) w := hS.sub (by (repeat (first | exact Sub.nil | exact Sub.refl | refine Sub.cons (by (repeat (first | exact At.here | apply At.there))) ?_)))
    replace hS := rdH.of (R := fun g => RoR g ((pts_.take (i + 1)).map (fun pt => fitT pt T)) (RH ++ [⟨x1, x2, x3⟩])) hS (fun g h => by
      rw [hst]
      exact RoR.snoc (rdH.rd (RoR.stays _ _) (h _ (.tail _ (.head _)))) (OwT.rd (h _ (.head _))))
    (repeat' (first | (show wpListIn _ _ _ _ _ (_ :: _) _ _; first | (refine wx1 ?_; clear hk a; intro a hk) | (refine wx2 ?_ ?_ <;> (intro hp; clear hk a; intro a hk)) | (refine wx3 ?_; clear hk hS a; intro w b hS a hk) | (refine wx4 ?_; clear hk hS a; intro w hS a hk) | (refine wx5 ?_; clear hk hS a; intro w v hS a hk) | fail) | refine wx0 ?_ | (refine s_end hk ?_; clear hk a; intro a hk) | fail))
    exact ⟨hil, ((aov34, cv34), RH ++ [⟨x1, x2, x3⟩]), hk.sd, hS.sb, by simp only [List.length_append, List.length_cons, List.length_nil]; omega⟩
  · have hii : i = Ls.length := by omega
    subst hii
    have etk : pts_.take Ls.length = pts_ := by rw [hll, List.take_length]
    rw [etk] at hS
    have hrl : (pts_.map (fun pt => fitT pt T)).length = pts_.length := List.length_map _
    have hr100 : ∀ r ∈ pts_.map (fun pt => fitT pt T), r.length ≤ 1000 := fun r hr => by
      obtain ⟨pt, -, rfl⟩ := List.mem_map.1 hr
      have := hfit pt
      omega
    have hcl : caps.length = Ls.length := by rw [← hcaps, List.length_map]
    generalize pts_.map (fun pt => fitT pt T) = rows at *
    obtain ⟨g1, hx1, hr1, hS1⟩ := hS.freeze (A := rorH rows RH) (by (repeat (first | exact At.here | apply At.there)))
    clear hS
    obtain ⟨g2, hx2, hr2, hS⟩ := hS1.freeze (A := OwT 24 RH (.slice ao RH.length c)) (by (repeat (first | exact At.here | apply At.there)))
    clear hS1
    have hR2 := OwT.rd hr2
    have hRo := RoR.stays rows RH _ _ hx2.1 (rdH.rd (RoR.stays rows RH) hr1)
    have hL2 := hL.frz (hx1.1.trans hx2.1)
    have hgw := (hx1.1.trans hx2.1).trans hS.frz
    simp only at hS
    (repeat' (first | (show wpListIn _ _ _ _ _ (_ :: _) _ _; first | (refine wx1 ?_; clear hk a; intro a hk) | (refine wx2 ?_ ?_ <;> (intro hp; clear hk a; intro a hk)) | (refine wx3 ?_; clear hk hS a; intro w b hS a hk) | (refine wx4 ?_; clear hk hS a; intro w hS a hk) | (refine wx5 ?_; clear hk hS a; intro w v hS a hk) | fail) | refine wx0 ?_ | (refine s_end hk ?_; clear hk a; intro a hk) | fail))
    refine sg hk (g_callO hk (hf := by kernel_rfl) (hc := path33 g T (id', k, tag, text, ⟨a1, cl.length, m1⟩, ⟨a2, al.length, m2⟩, ⟨a3, sl.length, m3⟩, ⟨a4, H.length, m4⟩) id _ hpl hsz ((hx1.1.trans hx2.1).trans hS.frz) hr0) (h := ?_)); clear hk a; rintro vw w hS1 a hk; replace hS := hS.call hS1; clear hS1
    generalize pathF T id = way at *
    rw [List.cons_append, List.nil_append] at hS
    obtain ⟨aovw, cvw, hshp, _⟩ := (OwT.rd (hS.rd (A := OwT 3 _ vw) (by (repeat (first | exact At.here | apply At.there))))).shape; subst hshp
    (repeat' (first | (show wpListIn _ _ _ _ _ (_ :: _) _ _; first | (refine wx1 ?_; clear hk a; intro a hk) | (refine wx2 ?_ ?_ <;> (intro hp; clear hk a; intro a hk)) | (refine wx3 ?_; clear hk hS a; intro w b hS a hk) | (refine wx4 ?_; clear hk hS a; intro w hS a hk) | (refine wx5 ?_; clear hk hS a; intro w v hS a hk) | fail) | refine wx0 ?_ | (refine s_end hk ?_; clear hk a; intro a hk) | fail))
    replace hS := hS.nilT 26 (Int × Int)
    replace hS : St ⟨g2, w0⟩ [rndH br (.slice la Ls.length lc) (.slice ao RH.length c) (downF caps rows Ls.length (way.take 0)), pts b7 [.pointer (some ⟨br, 0, none⟩)] 50, OwT 3 way (.slice aovw way.length cvw)] w :=
      bagH.of (A := fun hd : Hd => [pts br [.slice la Ls.length lc, .slice ao RH.length c, hd.v, .bool false] 53, OwT 26 ([] : List (Int × Int)) hd.v]) (x := ⟨none, 0, 0⟩) (L := [pts b7 [.pointer (some ⟨br, 0, none⟩)] 50, OwT 3 way (.slice aovw way.length cvw)]) (hS.sub (by (repeat (first | exact Sub.nil | exact Sub.refl | refine Sub.cons (by (repeat (first | exact At.here | apply At.there))) ?_)))) trivial
    replace hk := Kn.kp [7, 10, 41, 42, 43] hk
    refine wp_for way.length (fun i _ => [(43, .int .i64 (i : Int))]) (fun i _ => [rndH br (.slice la Ls.length lc) (.slice ao RH.length c) (downF caps rows Ls.length (way.take i)), pts b7 [.pointer (some ⟨br, 0, none⟩)] 50, OwT 3 way (.slice aovw way.length cvw)]) (fun _ _ => True) () hk (by repeat (first | exact trivial | refine ⟨rfl, ?_⟩)) hS trivial ?_
    clear hk hS a
    rintro i ⟨⟩ a w hi hk hS -
    by_cases hil : i < way.length
    · obtain ⟨id1, hid⟩ : ∃ x, way[i]? = some x := ⟨_, List.getElem?_eq_getElem hil⟩
      have hst : downF caps rows Ls.length (way.take (i + 1)) = downF caps rows Ls.length (way.take i) ++ atF caps rows id1 true Ls.length := by rw [take_snoc hid, downF, List.flatMap_append, List.flatMap_singleton]; rfl
      have hdl : (downF caps rows Ls.length (way.take i)).length ≤ 10 * 20 := Nat.le_trans (downF_len _ _ _ _) (Nat.mul_le_mul (by omega) (by rw [List.length_take]; omega))
      generalize downF caps rows Ls.length (way.take (i + 1)) = C1 at *
      generalize downF caps rows Ls.length (way.take i) = C at *
      obtain ⟨⟨x1, x2, x3⟩, -, hS1⟩ := St.bag hS .here
      clear hS
      rw [List.cons_append, List.cons_append, List.nil_append] at hS1
      have hS := hS1
      clear hS1
      (repeat' (first | (show wpListIn _ _ _ _ _ (_ :: _) _ _; first | (refine wx1 ?_; clear hk a; intro a hk) | (refine wx2 ?_ ?_ <;> (intro hp; clear hk a; intro a hk)) | (refine wx3 ?_; clear hk hS a; intro w b hS a hk) | (refine wx4 ?_; clear hk hS a; intro w hS a hk) | (refine wx5 ?_; clear hk hS a; intro w v hS a hk) | fail) | refine wx0 ?_ | (refine s_end hk ?_; clear hk a; intro a hk) | fail))
      replace hS : St ⟨g2, w0⟩ (rndH br (.slice la Ls.length lc) (.slice ao RH.length c) C :: [pts b7 [.pointer (some ⟨br, 0, none⟩)] 50, OwT 3 way (.slice aovw way.length cvw)]) w :=
        bagH.of (A := fun hd : Hd => [pts br [.slice la Ls.length lc, .slice ao RH.length c, hd.v, .bool false] 53, OwT 26 C hd.v]) (x := ⟨x1, x2, x3⟩) (hS.sub (by (repeat (first | exact Sub.nil | exact Sub.refl | refine Sub.cons (by (repeat (first | exact At.here | apply At.there))) ?_)))) trivial
      refine sg hk (g_callO hk (hf := by kernel_rfl) (hc := at33 br Ls rows RH la ao lc c ⟨g2, w0⟩ hL2 hstop hR2 hRo.1 (by omega) (by omega) (fun i r h h1 h2 => ⟨hRo.2 i r h h1 h2, hr100 r (List.mem_of_getElem? h1)⟩) C id1 true _ _ (by omega) hS) (h := ?_)); clear hk hS a; intro vr w hS a hk
      rw [hcaps, ← hst] at hS
      (repeat' (first | (show wpListIn _ _ _ _ _ (_ :: _) _ _; first | (refine wx1 ?_; clear hk a; intro a hk) | (refine wx2 ?_ ?_ <;> (intro hp; clear hk a; intro a hk)) | (refine wx3 ?_; clear hk hS a; intro w b hS a hk) | (refine wx4 ?_; clear hk hS a; intro w hS a hk) | (refine wx5 ?_; clear hk hS a; intro w v hS a hk) | fail) | refine wx0 ?_ | (refine s_end hk ?_; clear hk a; intro a hk) | fail))
      exact ⟨hil, (), hk.sd, hS.sb, trivial⟩
    · have hii : i = way.length := by omega
      subst hii
      rw [List.take_length] at hS
      (repeat' (first | (show wpListIn _ _ _ _ _ (_ :: _) _ _; first | (refine wx1 ?_; clear hk a; intro a hk) | (refine wx2 ?_ ?_ <;> (intro hp; clear hk a; intro a hk)) | (refine wx3 ?_; clear hk hS a; intro w b hS a hk) | (refine wx4 ?_; clear hk hS a; intro w hS a hk) | (refine wx5 ?_; clear hk hS a; intro w v hS a hk) | fail) | refine wx0 ?_ | (refine s_end hk ?_; clear hk a; intro a hk) | fail))
      refine sg hk (g_callO hk (hf := by kernel_rfl) (hc := backw_any hS) (h := ?_)); clear hk hS a; rintro _ w ⟨bv, rfl, hS⟩ a hk
      (repeat' (first | (show wpListIn _ _ _ _ _ (_ :: _) _ _; first | (refine wx1 ?_; clear hk a; intro a hk) | (refine wx2 ?_ ?_ <;> (intro hp; clear hk a; intro a hk)) | (refine wx3 ?_; clear hk hS a; intro w b hS a hk) | (refine wx4 ?_; clear hk hS a; intro w hS a hk) | (refine wx5 ?_; clear hk hS a; intro w v hS a hk) | fail) | refine wx0 ?_ | (refine s_end hk ?_; clear hk a; intro a hk) | fail))
      replace hk := Kn.kp [7, 57] hk
      have hd0 : (downF caps rows Ls.length way).length ≤ 10 * 20 := Nat.le_trans (downF_len _ _ _ _) (Nat.mul_le_mul (by omega) (by omega))
      generalize downF caps rows Ls.length way = C at *
      have hS1 : St ⟨g2, w0⟩ (pts bv [.slice aovw way.length cvw] 24 :: OwT 3 way (.slice aovw way.length cvw) :: [rndH br (.slice la Ls.length lc) (.slice ao RH.length c) (C ++ upF caps rows Ls.length (way.drop way.length)), pts b7 [.pointer (some ⟨br, 0, none⟩)] 50]) w := by
        rw [List.drop_length, upF, List.reverse_nil, List.flatMap_nil, List.append_nil]
        exact hS.sub (by (repeat (first | exact Sub.nil | exact Sub.refl | refine Sub.cons (by (repeat (first | exact At.here | apply At.there))) ?_)))
      clear hS
      refine wp_rangeB (xs := way) (v := .slice aovw way.length cvw) (bv := bv) (fun i _ => [rndH br (.slice la Ls.length lc) (.slice ao RH.length c) (C ++ upF caps rows Ls.length (way.drop i)), pts b7 [.pointer (some ⟨br, 0, none⟩)] 50]) (fun _ _ => True) () hk hS1 trivial (by omega) ?_ ?_
      · clear hS1 hk a
        rintro i ⟨⟩ id1 fn bl D tmps w hid hi - hS a hk
        have hst : C ++ upF caps rows Ls.length (way.drop i) = (C ++ upF caps rows Ls.length (way.drop (i + 1))) ++ atF caps rows id1 false Ls.length := by
          rw [drop_cons hid, upF, List.reverse_cons, List.flatMap_append, List.flatMap_singleton, List.append_assoc]; rfl
        have hul : (C ++ upF caps rows Ls.length (way.drop (i + 1))).length ≤ 10 * 20 + 10 * 20 := by
          rw [List.length_append]
          exact Nat.add_le_add hd0 (Nat.le_trans (upF_len _ _ _ _) (Nat.mul_le_mul (by omega) (by rw [List.length_drop]; omega)))
        generalize C ++ upF caps rows Ls.length (way.drop i) = C1 at *
        generalize C ++ upF caps rows Ls.length (way.drop (i + 1)) = C0 at *
        (repeat' (first | (show wpListIn _ _ _ _ _ (_ :: _) _ _; first | (refine wx1 ?_; clear hk a; intro a hk) | (refine wx2 ?_ ?_ <;> (intro hp; clear hk a; intro a hk)) | (refine wx3 ?_; clear hk hS a; intro w b hS a hk) | (refine wx4 ?_; clear hk hS a; intro w hS a hk) | (refine wx5 ?_; clear hk hS a; intro w v hS a hk) | fail) | refine wx0 ?_ | (refine s_end hk ?_; clear hk a; intro a hk) | fail))
        refine q_begin hS (by (repeat (first | exact At.here | apply At.there))) (fun w hS => ?_)
        obtain ⟨⟨x1, x2, x3⟩, -, hS1⟩ := St.bag hS (A := fun hd : Hd => [pts br [.slice la Ls.length lc, .slice ao RH.length c, hd.v, .bool false] 53, OwT 26 C0 hd.v]) (p := fun _ => True) (by (repeat (first | exact At.here | apply At.there)))
        clear hS
        rw [List.cons_append, List.cons_append, List.nil_append] at hS1
        have hS := hS1
        clear hS1
        (repeat' (first | (show wpListIn _ _ _ _ _ (_ :: _) _ _; first | (refine wx1 ?_; clear hk a; intro a hk) | (refine wx2 ?_ ?_ <;> (intro hp; clear hk a; intro a hk)) | (refine wx3 ?_; clear hk hS a; intro w b hS a hk) | (refine wx4 ?_; clear hk hS a; intro w hS a hk) | (refine wx5 ?_; clear hk hS a; intro w v hS a hk) | fail) | refine wx0 ?_ | (refine s_end hk ?_; clear hk a; intro a hk) | fail))
        replace hS : St ⟨g2, w0⟩ (rndH br (.slice la Ls.length lc) (.slice ao RH.length c) C0 :: _) w := bagH.of (A := fun hd : Hd => [pts br [.slice la Ls.length lc, .slice ao RH.length c, hd.v, .bool false] 53, OwT 26 C0 hd.v]) (x := ⟨x1, x2, x3⟩) hS trivial
        refine sg hk (g_callO hk (hf := by kernel_rfl) (hc := at33 br Ls rows RH la ao lc c ⟨g2, w0⟩ hL2 hstop hR2 hRo.1 (by omega) (by omega) (fun i r h h1 h2 => ⟨hRo.2 i r h h1 h2, hr100 r (List.mem_of_getElem? h1)⟩) C0 id1 false _ _ (by omega) hS) (h := ?_)); clear hk hS a; intro vr w hS a hk
        rw [hcaps, ← hst] at hS
        (repeat' (first | (show wpListIn _ _ _ _ _ (_ :: _) _ _; first | (refine wx1 ?_; clear hk a; intro a hk) | (refine wx2 ?_ ?_ <;> (intro hp; clear hk a; intro a hk)) | (refine wx3 ?_; clear hk hS a; intro w b hS a hk) | (refine wx4 ?_; clear hk hS a; intro w hS a hk) | (refine wx5 ?_; clear hk hS a; intro w v hS a hk) | fail) | refine wx0 ?_ | (refine s_end hk ?_; clear hk a; intro a hk) | fail))
        exact q_roundN hS (by (repeat (first | exact At.here | apply At.there))) (fun w hS => ⟨_, rfl, rfl, (), hS.sb, trivial⟩)
      · rintro ⟨⟩ D w - hS a hk
        rw [List.drop_zero] at hS
        generalize C ++ upF caps rows Ls.length way = C1 at *
        obtain ⟨⟨x1, x2, x3⟩, -, hS1⟩ := St.bag hS (A := fun hd : Hd => [pts br [.slice la Ls.length lc, .slice ao RH.length c, hd.v, .bool false] 53, OwT 26 C1 hd.v]) (p := fun _ => True) (by (repeat (first | exact At.here | apply At.there)))
        clear hS
        rw [List.cons_append, List.cons_append, List.nil_append] at hS1
        have hS := hS1
        clear hS1
        (repeat' (first | (show wpListIn _ _ _ _ _ (_ :: _) _ _; first | (refine wx1 ?_; clear hk a; intro a hk) | (refine wx2 ?_ ?_ <;> (intro hp; clear hk a; intro a hk)) | (refine wx3 ?_; clear hk hS a; intro w b hS a hk) | (refine wx4 ?_; clear hk hS a; intro w hS a hk) | (refine wx5 ?_; clear hk hS a; intro w v hS a hk) | fail) | refine wx0 ?_ | (refine s_end hk ?_; clear hk a; intro a hk) | fail))
        exact done1M hk hS (by (repeat (first | exact At.here | apply At.there))) (fun w hS => (hS.sub (L' := [OwT 26 C1 (Hd.v ⟨x1, x2, x3⟩)]) (by (repeat (first | exact Sub.nil | exact Sub.refl | refine Sub.cons (by (repeat (first | exact At.here | apply At.there))) ?_)))).low0)
end Go.Proofs.Ytcahaaapmaahnaa
namespace Go.Proofs.Ytcahaaapmaahnaa
open Go.RowKit
set_option maxRecDepth 100000
attribute [local irreducible] Go.Code.wpIn Go.wpListIn Go.Calls Gives Go.Exit.then Go.Exit.inBlock Done ObxE

theorem numbers_any (xs ys : List Int) (va vb : Value) (w0 : World) (ha : SlT xs va w0) (hb : SlT ys vb w0) : Calls Try.prog 5 #[va, vb] w0 (Ret fun v w => v = .bool (decide (xs = ys)) ∧ St w0 [] w) := by
  refine enter Try.func5 rfl Try.ntmps5 rfl (fun a hk => ?_); have hS := St.refl w0
  by_cases hl : xs.length = ys.length
  · have hl' : ((xs.length : Nat) : Int) = ((ys.length : Nat) : Int) := by omega
    (repeat' (first | (show wpListIn _ _ _ _ _ (_ :: _) _ _; first | (refine wx1 ?_; clear hk a; intro a hk) | (refine wx2 ?_ ?_ <;> (intro hp; clear hk a; intro a hk)) | (refine wx3 ?_; clear hk hS a; intro w b hS a hk) | (refine wx4 ?_; clear hk hS a; intro w hS a hk) | (refine wx5 ?_; clear hk hS a; intro w v hS a hk) | fail) | refine wx0 ?_ | (refine s_end hk ?_; clear hk a; intro a hk) | fail))
    replace hk := Kn.kp [0, 1, 4, 12, 13] hk
    refine wp_for xs.length (fun i _ => [(13, .int .i64 (i : Int))]) (fun _ _ => _) (fun i _ => ∀ j, j < i → xs[j]? = ys[j]?) () hk (by repeat (first | exact trivial | refine ⟨rfl, ?_⟩)) hS (fun j hj => by omega) ?_
    clear hk hS a
    rintro i _ a w hi hk hS hF
    by_cases hlt : i < xs.length
    · have hlt' : (i : Int) < ((xs.length : Nat) : Int) := by omega
      have hly : i < ys.length := by omega
      obtain ⟨x, hx⟩ : ∃ x, xs[i]? = some x := ⟨_, List.getElem?_eq_getElem hlt⟩
      obtain ⟨y, hy⟩ : ∃ y, ys[i]? = some y := ⟨_, List.getElem?_eq_getElem hly⟩
      have hm : (xs.length : Nat) ≤ maxLen := ha.len_le
      simp only [maxLen] at hm
      by_cases hxy : x = y
      · (repeat' (first | (show wpListIn _ _ _ _ _ (_ :: _) _ _; first | (refine wx1 ?_; clear hk a; intro a hk) | (refine wx2 ?_ ?_ <;> (intro hp; clear hk a; intro a hk)) | (refine wx3 ?_; clear hk hS a; intro w b hS a hk) | (refine wx4 ?_; clear hk hS a; intro w hS a hk) | (refine wx5 ?_; clear hk hS a; intro w v hS a hk) | fail) | refine wx0 ?_ | (refine s_end hk ?_; clear hk a; intro a hk) | fail))
        refine wp_drawn 9 mixed (by kernel_rfl) hk hS ?_; clear hk hS a
        (repeat' (first | (show ObxE _ _ _ _ _ _ _ _ _ (_ :: _) _ _ _; first | refine ox1 ?_ | (refine ox2 ?_ ?_ <;> intro hp) | fail) | fail))
        refine obe_nil ⟨rfl, ?_⟩; intro us a w hk hS
        (repeat' (first | (show wpListIn _ _ _ _ _ (_ :: _) _ _; first | (refine wx1 ?_; clear hk a; intro a hk) | (refine wx2 ?_ ?_ <;> (intro hp; clear hk a; intro a hk)) | (refine wx3 ?_; clear hk hS a; intro w b hS a hk) | (refine wx4 ?_; clear hk hS a; intro w hS a hk) | (refine wx5 ?_; clear hk hS a; intro w v hS a hk) | fail) | refine wx0 ?_ | (refine s_end hk ?_; clear hk a; intro a hk) | fail))
        refine ⟨hlt, (), hk.sd, hS, fun j hj => ?_⟩
        by_cases e : j = i
        · subst e; rw [hx, hy, hxy]
        · exact hF j (by omega)
      · (repeat' (first | (show wpListIn _ _ _ _ _ (_ :: _) _ _; first | (refine wx1 ?_; clear hk a; intro a hk) | (refine wx2 ?_ ?_ <;> (intro hp; clear hk a; intro a hk)) | (refine wx3 ?_; clear hk hS a; intro w b hS a hk) | (refine wx4 ?_; clear hk hS a; intro w hS a hk) | (refine wx5 ?_; clear hk hS a; intro w v hS a hk) | fail) | refine wx0 ?_ | (refine s_end hk ?_; clear hk a; intro a hk) | fail))
        refine wp_drawn 9 mixed (by kernel_rfl) hk hS ?_; clear hk hS a
        (repeat' (first | (show ObxE _ _ _ _ _ _ _ _ _ (_ :: _) _ _ _; first | refine ox1 ?_ | (refine ox2 ?_ ?_ <;> intro hp) | fail) | fail))
        refine obe_nil ⟨rfl, ?_⟩; intro us a w hk hS
        (repeat' (first | (show wpListIn _ _ _ _ _ (_ :: _) _ _; first | (refine wx1 ?_; clear hk a; intro a hk) | (refine wx2 ?_ ?_ <;> (intro hp; clear hk a; intro a hk)) | (refine wx3 ?_; clear hk hS a; intro w b hS a hk) | (refine wx4 ?_; clear hk hS a; intro w hS a hk) | (refine wx5 ?_; clear hk hS a; intro w v hS a hk) | fail) | refine wx0 ?_ | (refine s_end hk ?_; clear hk a; intro a hk) | fail))
        refine done1 hk (h := ⟨?_, hS.nil⟩)
        rw [decide_eq_false]
        intro e
        subst e
        rw [hx] at hy
        injection hy with hy
        exact hxy hy
    · have hlt' : ¬ (i : Int) < ((xs.length : Nat) : Int) := by omega
      (repeat' (first | (show wpListIn _ _ _ _ _ (_ :: _) _ _; first | (refine wx1 ?_; clear hk a; intro a hk) | (refine wx2 ?_ ?_ <;> (intro hp; clear hk a; intro a hk)) | (refine wx3 ?_; clear hk hS a; intro w b hS a hk) | (refine wx4 ?_; clear hk hS a; intro w hS a hk) | (refine wx5 ?_; clear hk hS a; intro w v hS a hk) | fail) | refine wx0 ?_ | (refine s_end hk ?_; clear hk a; intro a hk) | fail))
      refine done1 hk (h := ⟨?_, hS.nil⟩)
      rw [decide_eq_true]
      apply List.ext_getElem?
      intro j
      by_cases hj : j < i
      · exact hF j hj
      · rw [List.getElem?_eq_none (by omega), List.getElem?_eq_none (by omega)]
  · have hl' : ¬ ((xs.length : Nat) : Int) = ((ys.length : Nat) : Int) := by omega
    (repeat' (first | (show wpListIn _ _ _ _ _ (_ :: _) _ _; first | (refine wx1 ?_; clear hk a; intro a hk) | (refine wx2 ?_ ?_ <;> (intro hp; clear hk a; intro a hk)) | (refine wx3 ?_; clear hk hS a; intro w b hS a hk) | (refine wx4 ?_; clear hk hS a; intro w hS a hk) | (refine wx5 ?_; clear hk hS a; intro w v hS a hk) | fail) | refine wx0 ?_ | (refine s_end hk ?_; clear hk a; intro a hk) | fail))
    refine done1 hk (h := ⟨?_, hS.nil⟩)
    rw [decide_eq_false]
    intro e
    exact hl (by rw [e])
end Go.Proofs.Ytcahaaapmaahnaa
namespace Go.Proofs.Ytcahaaapmaahnaa
open Go.RowKit
set_option maxRecDepth 100000
attribute [local irreducible] Go.Code.wpIn Go.wpListIn Go.Calls Gives Go.Exit.then Go.Exit.inBlock Done ObxE

set_option maxHeartbeats 8000000 in
theorem nodes33 (l : List (Int × Int)) (vl : Value) (w0 : World) (hv : SlT l vl w0) (hl : l.length ≤ 1000) : Calls Try.prog 6 #[vl] w0 (Ret fun v w => St w0 [OwT 3 (nodesF l) v] w) := by
  obtain ⟨la, lc, rfl, _⟩ := hv.shape
  refine enter Try.func6 rfl Try.ntmps6 rfl (fun a hk => ?_); have hS := St.refl w0
  (repeat' (first | (show wpListIn _ _ _ _ _ (_ :: _) _ _; first | (refine wx1 ?_; clear hk a; intro a hk) | (refine wx2 ?_ ?_ <;> (intro hp; clear hk a; intro a hk)) | (refine wx3 ?_; clear hk hS a; intro w b hS a hk) | (refine wx4 ?_; clear hk hS a; intro w hS a hk) | (refine wx5 ?_; clear hk hS a; intro w v hS a hk) | fail) | refine wx0 ?_ | (refine s_end hk ?_; clear hk a; intro a hk) | fail))
  replace hS := hS.nilT 3 Int
  replace hk := Kn.kp [3, 6, 7, 8] hk
  refine wp_for l.length (fun i v => [(3, .slice v.1 (nodesF (l.take i)).length v.2), (8, .int .i64 (i : Int))]) (fun i v => [OwT 3 (nodesF (l.take i)) (.slice v.1 (nodesF (l.take i)).length v.2)]) (fun _ _ => True) ((none, 0) : Option Addr × Nat) hk (by repeat (first | exact trivial | refine ⟨rfl, ?_⟩)) hS trivial ?_
  clear hk hS a
  rintro i ⟨ao, c⟩ a w hi hk hS -
  simp only at hS hk
  by_cases hil : i < l.length
  · obtain ⟨⟨c1, c2⟩, hx⟩ : ∃ x, l[i]? = some x := ⟨_, List.getElem?_eq_getElem hil⟩
    have hst : nodesF (l.take (i + 1)) = if c2 ∈ nodesF (l.take i) then nodesF (l.take i) else nodesF (l.take i) ++ [c2] := by rw [take_snoc hx, nodes_snoc]
    have hnl : (nodesF (l.take i)).length ≤ 1000 := Nat.le_trans (nodes_len _) (by rw [List.length_take]; omega)
    generalize nodesF (l.take (i + 1)) = N1 at *
    generalize nodesF (l.take i) = N0 at *
    (repeat' (first | (show wpListIn _ _ _ _ _ (_ :: _) _ _; first | (refine wx1 ?_; clear hk a; intro a hk) | (refine wx2 ?_ ?_ <;> (intro hp; clear hk a; intro a hk)) | (refine wx3 ?_; clear hk hS a; intro w b hS a hk) | (refine wx4 ?_; clear hk hS a; intro w hS a hk) | (refine wx5 ?_; clear hk hS a; intro w v hS a hk) | fail) | refine wx0 ?_ | (refine s_end hk ?_; clear hk a; intro a hk) | fail))
    refine sg hk (g_callO hk (hf := by kernel_rfl) (hc := contains_any N0 c2 _ _ (by first | exact St.rdT hS (by assumption) | exact OwT.rd (hS.rd (A := OwT _ _ _) (by (repeat (first | exact At.here | apply At.there)))) | assumption) (by omega)) (h := ?_)); clear hk a; rintro _ w ⟨rfl, hS1⟩ a hk; replace hS := hS.call0 hS1; clear hS1
    by_cases hin : c2 ∈ N0
    · rw [if_pos hin] at hst
      rw [decide_eq_true hin] at hk
      subst hst
      (repeat' (first | (show wpListIn _ _ _ _ _ (_ :: _) _ _; first | (refine wx1 ?_; clear hk a; intro a hk) | (refine wx2 ?_ ?_ <;> (intro hp; clear hk a; intro a hk)) | (refine wx3 ?_; clear hk hS a; intro w b hS a hk) | (refine wx4 ?_; clear hk hS a; intro w hS a hk) | (refine wx5 ?_; clear hk hS a; intro w v hS a hk) | fail) | refine wx0 ?_ | (refine s_end hk ?_; clear hk a; intro a hk) | fail))
      exact ⟨hil, (ao, c), hk.sd, hS.sb, trivial⟩
    · rw [if_neg hin] at hst
      rw [decide_eq_false hin] at hk
      (repeat' (first | (show wpListIn _ _ _ _ _ (_ :: _) _ _; first | (refine wx1 ?_; clear hk a; intro a hk) | (refine wx2 ?_ ?_ <;> (intro hp; clear hk a; intro a hk)) | (refine wx3 ?_; clear hk hS a; intro w b hS a hk) | (refine wx4 ?_; clear hk hS a; intro w hS a hk) | (refine wx5 ?_; clear hk hS a; intro w v hS a hk) | fail) | refine wx0 ?_ | (refine s_end hk ?_; clear hk a; intro a hk) | fail))
      rw [← hst] at hS
      rename Value => vn
      obtain ⟨aovn, cvn, hshp, _⟩ := (OwT.rd (hS.rd (A := OwT 3 _ vn) (by (repeat (first | exact At.here | apply At.there))))).shape; subst hshp
      (repeat' (first | (show wpListIn _ _ _ _ _ (_ :: _) _ _; first | (refine wx1 ?_; clear hk a; intro a hk) | (refine wx2 ?_ ?_ <;> (intro hp; clear hk a; intro a hk)) | (refine wx3 ?_; clear hk hS a; intro w b hS a hk) | (refine wx4 ?_; clear hk hS a; intro w hS a hk) | (refine wx5 ?_; clear hk hS a; intro w v hS a hk) | fail) | refine wx0 ?_ | (refine s_end hk ?_; clear hk a; intro a hk) | fail))
      exact ⟨hil, (aovn, cvn), hk.sd, hS.sb, trivial⟩
  · have hii : i = l.length := by omega
    subst hii
    rw [List.take_length] at hS hk
    (repeat' (first | (show wpListIn _ _ _ _ _ (_ :: _) _ _; first | (refine wx1 ?_; clear hk a; intro a hk) | (refine wx2 ?_ ?_ <;> (intro hp; clear hk a; intro a hk)) | (refine wx3 ?_; clear hk hS a; intro w b hS a hk) | (refine wx4 ?_; clear hk hS a; intro w hS a hk) | (refine wx5 ?_; clear hk hS a; intro w v hS a hk) | fail) | refine wx0 ?_ | (refine s_end hk ?_; clear hk a; intro a hk) | fail))
    exact done1 hk (h := hS.sb)
abbrev tLi : STree := .mk 2 2 ⟨#[108, 105]⟩ ⟨#[]⟩ [] [] [] []
abbrev tUl : STree := .mk 1 2 ⟨#[117, 108]⟩ ⟨#[]⟩ [] [] [] [tLi]
abbrev pts33 : List ByteArray := [⟨#[108, 105]⟩, ⟨#[42]⟩, ⟨#[117, 108]⟩]
theorem tUl_pl : PlT tUl := .mk (by simp) (by simp) (fun t ht => by rw [List.mem_singleton.1 ht]; exact .mk (by simp) (by simp) (fun t ht => by cases ht))
theorem tUl_size : SizeOf.sizeOf tUl < 800 := by decide
theorem tUl_path : pathF tUl 2 = [1, 2] := by decide
theorem tUl_calls : downF [false, true, false] (pts33.map (fun pt => fitT pt tUl)) 3 [1, 2] ++ upF [false, true, false] (pts33.map (fun pt => fitT pt tUl)) 3 [1, 2] = [(1, 1), (1, 2), (0, 2), (2, 1)] := by decide
theorem tUl_fit (pt : ByteArray) : (fitT pt tUl).length ≤ 100 := by
  simp only [fitT, fitL]
  split <;> split <;> simp
theorem tUl_rd {g : World} {a : Option Addr} {c : Nat} (h : SlT [((2, 2, ⟨#[108, 105]⟩, ⟨#[]⟩, ⟨none, 0, 0⟩, ⟨none, 0, 0⟩, ⟨none, 0, 0⟩, ⟨none, 0, 0⟩) : SnH)] (.slice a 1 c) g) :
    SrR g tUl (1, 2, ⟨#[117, 108]⟩, ⟨#[]⟩, ⟨none, 0, 0⟩, ⟨none, 0, 0⟩, ⟨none, 0, 0⟩, ⟨a, 1, c⟩) := by
  refine .mk (SlT.nil g) (SlT.nil g) (SlT.nil g) h rfl (fun i t h h1 h2 => ?_)
  cases i with
  | zero =>
    simp at h1 h2
    subst h1 h2
    exact .mk (SlT.nil g) (SlT.nil g) (SlT.nil g) (SlT.nil g) rfl (fun i t h h1 h2 => by simp at h1)
  | succ i => simp at h1
set_option maxHeartbeats 16000000 in
theorem awake33 (w0 : World) : Calls Try.prog 4 #[] w0 (Ret fun v w => v = .bool true ∧ St w0 [] w) := by
  refine enter Try.func4 rfl Try.ntmps4 rfl (fun a hk => ?_); have hS := St.refl w0
  (repeat' (first | (show wpListIn _ _ _ _ _ (_ :: _) _ _; first | (refine wx1 ?_; clear hk a; intro a hk) | (refine wx2 ?_ ?_ <;> (intro hp; clear hk a; intro a hk)) | (refine wx3 ?_; clear hk hS a; intro w b hS a hk) | (refine wx4 ?_; clear hk hS a; intro w hS a hk) | (refine wx5 ?_; clear hk hS a; intro w v hS a hk) | fail) | refine wx0 ?_ | (refine s_end hk ?_; clear hk a; intro a hk) | fail))
  refine sg hk (g_bsT (xs := [((2, 2, ⟨#[108, 105]⟩, ⟨#[]⟩, ⟨none, 0, 0⟩, ⟨none, 0, 0⟩, ⟨none, 0, 0⟩, ⟨none, 0, 0⟩) : SnH)]) (m := 0) hk hS ?_ (hT := eT rfl) (hE := zT rfl) (hz := oT rfl)); clear hk hS a; intro w v4 hS a hk
  obtain ⟨aov4, cv4, hshp, _⟩ := (OwT.rd (hS.rd (A := OwT 37 _ v4) (by (repeat (first | exact At.here | apply At.there))))).shape; subst hshp
  (repeat' (first | (show wpListIn _ _ _ _ _ (_ :: _) _ _; first | (refine wx1 ?_; clear hk a; intro a hk) | (refine wx2 ?_ ?_ <;> (intro hp; clear hk a; intro a hk)) | (refine wx3 ?_; clear hk hS a; intro w b hS a hk) | (refine wx4 ?_; clear hk hS a; intro w hS a hk) | (refine wx5 ?_; clear hk hS a; intro w v hS a hk) | fail) | refine wx0 ?_ | (refine s_end hk ?_; clear hk a; intro a hk) | fail))
  rename Nat => b1
  refine sg hk (g_bsT (xs := [prt ⟨#[108, 105]⟩]) (m := 0) hk hS ?_ (hT := eT rfl) (hE := zT rfl) (hz := oT rfl)); clear hk hS a; intro w v8 hS a hk
  obtain ⟨aov8, cv8, hshp, _⟩ := (OwT.rd (hS.rd (A := OwT 41 _ v8) (by (repeat (first | exact At.here | apply At.there))))).shape; subst hshp
  (repeat' (first | (show wpListIn _ _ _ _ _ (_ :: _) _ _; first | (refine wx1 ?_; clear hk a; intro a hk) | (refine wx2 ?_ ?_ <;> (intro hp; clear hk a; intro a hk)) | (refine wx3 ?_; clear hk hS a; intro w b hS a hk) | (refine wx4 ?_; clear hk hS a; intro w hS a hk) | (refine wx5 ?_; clear hk hS a; intro w v hS a hk) | fail) | refine wx0 ?_ | (refine s_end hk ?_; clear hk a; intro a hk) | fail))
  refine sg hk (g_bsT (xs := [prt ⟨#[42]⟩]) (m := 0) hk hS ?_ (hT := eT rfl) (hE := zT rfl) (hz := oT rfl)); clear hk hS a; intro w v11 hS a hk
  obtain ⟨aov11, cv11, hshp, _⟩ := (OwT.rd (hS.rd (A := OwT 41 _ v11) (by (repeat (first | exact At.here | apply At.there))))).shape; subst hshp
  (repeat' (first | (show wpListIn _ _ _ _ _ (_ :: _) _ _; first | (refine wx1 ?_; clear hk a; intro a hk) | (refine wx2 ?_ ?_ <;> (intro hp; clear hk a; intro a hk)) | (refine wx3 ?_; clear hk hS a; intro w b hS a hk) | (refine wx4 ?_; clear hk hS a; intro w hS a hk) | (refine wx5 ?_; clear hk hS a; intro w v hS a hk) | fail) | refine wx0 ?_ | (refine s_end hk ?_; clear hk a; intro a hk) | fail))
  refine sg hk (g_bsT (xs := [prt ⟨#[117, 108]⟩]) (m := 0) hk hS ?_ (hT := eT rfl) (hE := zT rfl) (hz := oT rfl)); clear hk hS a; intro w v14 hS a hk
  obtain ⟨aov14, cv14, hshp, _⟩ := (OwT.rd (hS.rd (A := OwT 41 _ v14) (by (repeat (first | exact At.here | apply At.there))))).shape; subst hshp
  (repeat' (first | (show wpListIn _ _ _ _ _ (_ :: _) _ _; first | (refine wx1 ?_; clear hk a; intro a hk) | (refine wx2 ?_ ?_ <;> (intro hp; clear hk a; intro a hk)) | (refine wx3 ?_; clear hk hS a; intro w b hS a hk) | (refine wx4 ?_; clear hk hS a; intro w hS a hk) | (refine wx5 ?_; clear hk hS a; intro w v hS a hk) | fail) | refine wx0 ?_ | (refine s_end hk ?_; clear hk a; intro a hk) | fail))
  refine sg hk (g_bsT (xs := [((⟨aov8, 1, cv8⟩, false, false) : LsC), (⟨aov11, 1, cv11⟩, true, false), (⟨aov14, 1, cv14⟩, false, false)]) (m := 2) hk hS ?_ (hT := eT rfl) (hE := zT rfl) (hz := oT rfl)); clear hk hS a; intro w v16 hS a hk
  obtain ⟨aov16, cv16, hshp, _⟩ := (OwT.rd (hS.rd (A := OwT 45 _ v16) (by (repeat (first | exact At.here | apply At.there))))).shape; subst hshp
  (repeat' (first | (show wpListIn _ _ _ _ _ (_ :: _) _ _; first | (refine wx1 ?_; clear hk a; intro a hk) | (refine wx2 ?_ ?_ <;> (intro hp; clear hk a; intro a hk)) | (refine wx3 ?_; clear hk hS a; intro w b hS a hk) | (refine wx4 ?_; clear hk hS a; intro w hS a hk) | (refine wx5 ?_; clear hk hS a; intro w v hS a hk) | fail) | refine wx0 ?_ | (refine s_end hk ?_; clear hk a; intro a hk) | fail))
  obtain ⟨g1, hx1, hr1, hS1⟩ := hS.freeze (A := OwT 37 [((2, 2, ⟨#[108, 105]⟩, ⟨#[]⟩, ⟨none, 0, 0⟩, ⟨none, 0, 0⟩, ⟨none, 0, 0⟩, ⟨none, 0, 0⟩) : SnH)] (.slice aov4 [((2, 2, ⟨#[108, 105]⟩, ⟨#[]⟩, ⟨none, 0, 0⟩, ⟨none, 0, 0⟩, ⟨none, 0, 0⟩, ⟨none, 0, 0⟩) : SnH)].length cv4)) (by (repeat (first | exact At.here | apply At.there)))
  clear hS
  have hS := hS1
  clear hS1
  obtain ⟨g2, hx2, hr2, hS1⟩ := hS.freeze (A := OwT 41 [prt ⟨#[108, 105]⟩] (.slice aov8 [prt ⟨#[108, 105]⟩].length cv8)) (by (repeat (first | exact At.here | apply At.there)))
  clear hS
  have hS := hS1
  clear hS1
  obtain ⟨g3, hx3, hr3, hS1⟩ := hS.freeze (A := OwT 41 [prt ⟨#[42]⟩] (.slice aov11 [prt ⟨#[42]⟩].length cv11)) (by (repeat (first | exact At.here | apply At.there)))
  clear hS
  have hS := hS1
  clear hS1
  obtain ⟨g4, hx4, hr4, hS1⟩ := hS.freeze (A := OwT 41 [prt ⟨#[117, 108]⟩] (.slice aov14 [prt ⟨#[117, 108]⟩].length cv14)) (by (repeat (first | exact At.here | apply At.there)))
  clear hS
  have hS := hS1
  clear hS1
  obtain ⟨g5, hx5, hr5, hS1⟩ := hS.freeze (A := OwT 45 [((⟨aov8, 1, cv8⟩, false, false) : LsC), (⟨aov11, 1, cv11⟩, true, false), (⟨aov14, 1, cv14⟩, false, false)] (.slice aov16 [((⟨aov8, 1, cv8⟩, false, false) : LsC), (⟨aov11, 1, cv11⟩, true, false), (⟨aov14, 1, cv14⟩, false, false)].length cv16)) (by (repeat (first | exact At.here | apply At.there)))
  clear hS
  have hS := hS1
  clear hS1
  have hT5 := tUl_rd (a := aov4) (c := cv4) (((((OwT.rd hr1).frz hx2.1).frz hx3.1).frz hx4.1).frz hx5.1)
  have h8 := ((((OwT.rd hr2).frz hx3.1).frz hx4.1).frz hx5.1)
  have h11 := (((OwT.rd hr3).frz hx4.1).frz hx5.1)
  have h14 := ((OwT.rd hr4).frz hx5.1)
  have hL5 := OwT.rd hr5
  have hd := fun w' hz => dispatch33 g5 pts33 [((⟨aov8, 1, cv8⟩, false, false) : LsC), (⟨aov11, 1, cv11⟩, true, false), (⟨aov14, 1, cv14⟩, false, false)] aov16 cv16 tUl (1, 2, ⟨#[117, 108]⟩, ⟨#[]⟩, ⟨none, 0, 0⟩, ⟨none, 0, 0⟩, ⟨none, 0, 0⟩, ⟨aov4, 1, cv4⟩) 2 w' tUl_pl tUl_size hz hT5 hL5
    (by intro x hx; simp only [List.mem_cons, List.not_mem_nil, or_false] at hx; rcases hx with rfl | rfl | rfl <;> rfl) rfl (by decide)
    (by
      intro i x pt h1 h2
      rcases i with _ | _ | _ | i <;> simp [pts33] at h1 h2
      · subst h1 h2; exact h8
      · subst h1 h2; exact h11
      · subst h1 h2; exact h14) tUl_fit (by rw [tUl_path]; decide)
  rw [tUl_path] at hd
  refine sg hk (g_callO hk (hf := by kernel_rfl) (hc := hd _ hS.frz) (h := ?_)); clear hk a; rintro vd w hS1 a hk; replace hS := hS.call hS1; clear hS1
  replace hS : St ⟨g5, w0⟩ (OwT 26 [((1 : Int), (1 : Int)), (1, 2), (0, 2), (2, 1)] vd :: [pts b1 [.int .i64 1, .int .i64 2, .string ⟨#[117, 108]⟩, .string ⟨#[]⟩, .slice none 0 0, .slice none 0 0, .slice none 0 0, .slice aov4 1 cv4] 37]) w := by
    rw [← tUl_calls]
    exact hS
  obtain ⟨aovd, cvd, hshp, _⟩ := (OwT.rd (hS.rd (A := OwT 26 _ vd) (by (repeat (first | exact At.here | apply At.there))))).shape; subst hshp
  (repeat' (first | (show wpListIn _ _ _ _ _ (_ :: _) _ _; first | (refine wx1 ?_; clear hk a; intro a hk) | (refine wx2 ?_ ?_ <;> (intro hp; clear hk a; intro a hk)) | (refine wx3 ?_; clear hk hS a; intro w b hS a hk) | (refine wx4 ?_; clear hk hS a; intro w hS a hk) | (refine wx5 ?_; clear hk hS a; intro w v hS a hk) | fail) | refine wx0 ?_ | (refine s_end hk ?_; clear hk a; intro a hk) | fail))
  · refine sg hk (g_callO hk (hf := by kernel_rfl) (hc := path33 g5 tUl (1, 2, ⟨#[117, 108]⟩, ⟨#[]⟩, ⟨none, 0, 0⟩, ⟨none, 0, 0⟩, ⟨none, 0, 0⟩, ⟨aov4, 1, cv4⟩) 2 _ tUl_pl tUl_size hS.frz hT5) (h := ?_)); clear hk a; rintro vp w hS1 a hk; replace hS := hS.call hS1; clear hS1
    rw [tUl_path, List.cons_append, List.nil_append] at hS
    obtain ⟨aovp, cvp, hshp, _⟩ := (OwT.rd (hS.rd (A := OwT 3 _ vp) (by (repeat (first | exact At.here | apply At.there))))).shape; subst hshp
    (repeat' (first | (show wpListIn _ _ _ _ _ (_ :: _) _ _; first | (refine wx1 ?_; clear hk a; intro a hk) | (refine wx2 ?_ ?_ <;> (intro hp; clear hk a; intro a hk)) | (refine wx3 ?_; clear hk hS a; intro w b hS a hk) | (refine wx4 ?_; clear hk hS a; intro w hS a hk) | (refine wx5 ?_; clear hk hS a; intro w v hS a hk) | fail) | refine wx0 ?_ | (refine s_end hk ?_; clear hk a; intro a hk) | fail))
    refine sg hk (g_bsT (xs := [(1 : Int), 2]) (m := 1) hk hS ?_ (hT := eT rfl) (hE := zT rfl) (hz := oT rfl)); clear hk hS a; intro w v38 hS a hk
    obtain ⟨aov38, cv38, hshp, _⟩ := (OwT.rd (hS.rd (A := OwT 3 _ v38) (by (repeat (first | exact At.here | apply At.there))))).shape; subst hshp
    (repeat' (first | (show wpListIn _ _ _ _ _ (_ :: _) _ _; first | (refine wx1 ?_; clear hk a; intro a hk) | (refine wx2 ?_ ?_ <;> (intro hp; clear hk a; intro a hk)) | (refine wx3 ?_; clear hk hS a; intro w b hS a hk) | (refine wx4 ?_; clear hk hS a; intro w hS a hk) | (refine wx5 ?_; clear hk hS a; intro w v hS a hk) | fail) | refine wx0 ?_ | (refine s_end hk ?_; clear hk a; intro a hk) | fail))
    refine sg hk (g_callO hk (hf := by kernel_rfl) (hc := numbers_any [1, 2] [1, 2] _ _ _ (by first | exact St.rdT hS (by assumption) | exact OwT.rd (hS.rd (A := OwT _ _ _) (by (repeat (first | exact At.here | apply At.there)))) | assumption) (by first | exact St.rdT hS (by assumption) | exact OwT.rd (hS.rd (A := OwT _ _ _) (by (repeat (first | exact At.here | apply At.there)))) | assumption)) (h := ?_)); clear hk a; rintro _ w ⟨rfl, hS1⟩ a hk; replace hS := hS.call0 hS1; clear hS1
    rw [show decide (([1, 2] : List Int) = [1, 2]) = true from rfl] at hk
    (repeat' (first | (show wpListIn _ _ _ _ _ (_ :: _) _ _; first | (refine wx1 ?_; clear hk a; intro a hk) | (refine wx2 ?_ ?_ <;> (intro hp; clear hk a; intro a hk)) | (refine wx3 ?_; clear hk hS a; intro w b hS a hk) | (refine wx4 ?_; clear hk hS a; intro w hS a hk) | (refine wx5 ?_; clear hk hS a; intro w v hS a hk) | fail) | refine wx0 ?_ | (refine s_end hk ?_; clear hk a; intro a hk) | fail))
    refine sg hk (g_callO hk (hf := by kernel_rfl) (hc := target33 g5 tUl (1, 2, ⟨#[117, 108]⟩, ⟨#[]⟩, ⟨none, 0, 0⟩, ⟨none, 0, 0⟩, ⟨none, 0, 0⟩, ⟨aov4, 1, cv4⟩) _ tUl_pl tUl_size hS.frz hT5) (h := ?_)); clear hk a; rintro _ w ⟨rfl, hS1⟩ a hk; replace hS := hS.call0 hS1; clear hS1
    (repeat' (first | (show wpListIn _ _ _ _ _ (_ :: _) _ _; first | (refine wx1 ?_; clear hk a; intro a hk) | (refine wx2 ?_ ?_ <;> (intro hp; clear hk a; intro a hk)) | (refine wx3 ?_; clear hk hS a; intro w b hS a hk) | (refine wx4 ?_; clear hk hS a; intro w hS a hk) | (refine wx5 ?_; clear hk hS a; intro w v hS a hk) | fail) | refine wx0 ?_ | (refine s_end hk ?_; clear hk a; intro a hk) | fail))
    exact done1 hk (h := ⟨rfl, hS.flat⟩)
  · exact (Bool.false_ne_true (hp.symm.trans rfl)).elim
  · exact (Bool.false_ne_true (hp.symm.trans rfl)).elim
end Go.Proofs.Ytcahaaapmaahnaa
