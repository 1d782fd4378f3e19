/- Layer 7: which views may be: the program. Layer 7: which views may be, with all that is below: the program. Layer 7: the view of flat nodes. -/
import Derived.Test.YtkcjkbnbblpomaaGreatDoorT23
import Derived.Test.YtkcjkbnbblpomaaGreatDoorT16
set_option linter.all false
namespace Go.Proofs.YtkcjkbnbblpomaaGreatDoor
open Go.RowKit
set_option maxRecDepth 100000
attribute [local irreducible] Go.Code.wpIn Go.wpListIn Go.Calls Gives Go.Exit.then Go.Exit.inBlock Done ObxE

abbrev encSt : ByteArray → Value := fun s => .string s
theorem keySt : KeyT Tryz.prog 9 encSt := keyStr (sT rfl)
theorem twc_true {ks : List ByteArray} {c : ByteArray} {j : Nat} (h : c ≠ ⟨#[]⟩) (h1 : 1 < cntK c (ks.take j)) : twcB ks = true := by
  have h2 : cntK c (ks.take j) ≤ cntK c ks := List.Sublist.countP_le (List.take_sublist _ _)
  have hm : c ∈ ks := by
    have h3 : 0 < cntK c ks := by omega
    obtain ⟨x, hx, e⟩ := List.countP_pos_iff.1 h3
    rw [decide_eq_true_eq] at e
    rw [← e]; exact hx
  exact List.any_eq_true.2 ⟨c, hm, decide_eq_true ⟨h, by omega⟩⟩
theorem twc_false {ks : List ByteArray} (h : ∀ c, c ≠ ⟨#[]⟩ → cntK c ks ≤ 1) : twcB ks = false := by
  unfold twcB
  rw [List.any_eq_false]
  intro c _
  simp only [decide_eq_true_eq]
  rintro ⟨h1, h2⟩
  have := h c h1
  omega
theorem count_snoc {ks : List ByteArray} {i : Nat} {x : ByteArray} (h : ks[i]? = some x) (c : ByteArray) : cntK c (ks.take (i + 1)) = cntK c (ks.take i) + if x = c then 1 else 0 := by
  unfold cntK
  rw [take_snoc h, List.countP_append, List.countP_singleton]
  by_cases e : x = c
  · rw [if_pos (decide_eq_true e), if_pos e]
  · rw [if_neg (by simpa using e), if_neg e]

set_option maxHeartbeats 4000000 in
theorem twice_any (k : Int) (tag key text : ByteArray) (cl : List ByteArray) (al : List PrS) (sl : List PrI) (e lv m d : Int) (p q : Bool) (kids : List Tree) (a1 a2 a3 a4 : Option Addr) (m1 m2 m3 m4 : Nat) (H : List NdH) (w0 : World) (c1 : SlT cl (.slice a1 cl.length m1) w0) (c2 : SlT al (.slice a2 al.length m2) w0) (c3 : SlT sl (.slice a3 sl.length m3) w0) (c4 : SlT H (.slice a4 H.length m4) w0) (hF : FoR w0 kids H) (l1 : cl.length ≤ 100) (l2 : al.length ≤ 100) (l3 : sl.length ≤ 100) (l4 : kids.length ≤ 1000) :
    Calls Tryz.prog 111 #[.agg #[.int .i64 k, .string tag, .string key, .string text, .slice a1 cl.length m1, .slice a2 al.length m2, .slice a3 sl.length m3, .int .i64 e, .int .i64 lv, .int .i64 m, .int .i64 d, .bool p, .bool q, .slice a4 H.length m4]] w0 (Ret fun v w => v = .bool (twcB (kids.map Tree.key)) ∧ St w0 [] w) := by
  have hHk : H.length = kids.length := hF.1
  refine enter Tryz.func111 rfl Tryz.ntmps111 rfl (fun a hk => ?_); have hS := St.refl w0
  have hv4 := hS.rdT c4
  (repeat' (first | (show wpListIn _ _ _ _ _ (_ :: _) _ _; first | (refine wx1 ?_; clear hk a; intro a hk) | (refine wx2 ?_ ?_ <;> (intro hp; clear hk a; intro a hk)) | (refine wx3 ?_; clear hk hS a; intro w b hS a hk) | (refine wx4 ?_; clear hk hS a; intro w hS a hk) | (refine wx5 ?_; clear hk hS a; intro w v hS a hk) | fail) | refine wx0 ?_ | (refine s_end hk ?_; clear hk a; intro a hk) | fail))
  rename Nat => b1
  refine sg hk (g_makeMap encSt hS ?_); clear hk hS a; intro w mv hS a hk
  have hv4 := hS.rdT c4
  (repeat' (first | (show wpListIn _ _ _ _ _ (_ :: _) _ _; first | (refine wx1 ?_; clear hk a; intro a hk) | (refine wx2 ?_ ?_ <;> (intro hp; clear hk a; intro a hk)) | (refine wx3 ?_; clear hk hS a; intro w b hS a hk) | (refine wx4 ?_; clear hk hS a; intro w hS a hk) | (refine wx5 ?_; clear hk hS a; intro w v hS a hk) | fail) | refine wx0 ?_ | (refine s_end hk ?_; clear hk a; intro a hk) | fail))
  replace hk := Kn.kp [3, 8, 9, 10] hk
  generalize hks : kids.map Tree.key = ks
  have hkl : ks.length = kids.length := by rw [← hks, List.length_map]
  refine wp_for H.length (fun i _ => [(10, .int .i64 (i : Int))]) (fun i m => [mapH encSt mv m]) (fun i m => (∀ c, (getL m c).getD (.int .i64 0) = .int .i64 (cntK c (ks.take i) : Int)) ∧ ∀ c, c ≠ ⟨#[]⟩ → cntK c (ks.take i) ≤ 1) [] hk (by repeat (first | exact trivial | refine ⟨rfl, ?_⟩)) hS.sb ⟨fun c => rfl, fun c _ => by simp [cntK]⟩ ?_
  clear hk hS a hv4
  rintro i m9 a w hi hk hS ⟨hM, hO⟩
  have hv4 := hS.rdT c4
  by_cases hil : i < H.length
  · obtain ⟨tk, htk⟩ : ∃ t, kids[i]? = some t := ⟨_, List.getElem?_eq_getElem (by omega)⟩
    obtain ⟨hd0, hx⟩ : ∃ x, H[i]? = some x := ⟨_, List.getElem?_eq_getElem hil⟩
    have hTr := hF.2 i tk hd0 htk hx
    have hkx : ks[i]? = some tk.key := by rw [← hks, List.getElem?_map, htk]; rfl
    obtain ⟨k', tag', key', text', cl', al', sl', e', lv', m', d', p', q', kids', x1, x2, y1, y2, z1, z2, u1, u2, H', rfl, rfl, _⟩ := hTr.split
    have hkx : ks[i]? = some key' := hkx
    have hcs := count_snoc hkx
    have hct : cntK key' (ks.take i) ≤ i := by
      have := List.countP_le_length (p := fun x => decide (x = key')) (l := ks.take i)
      rw [List.length_take] at this
      unfold cntK
      omega
    (repeat' (first | (show wpListIn _ _ _ _ _ (_ :: _) _ _; first | (refine wx1 ?_; clear hk a; intro a hk) | (refine wx2 ?_ ?_ <;> (intro hp; clear hk a; intro a hk)) | (refine wx3 ?_; clear hk hS a; intro w b hS a hk) | (refine wx4 ?_; clear hk hS a; intro w hS a hk) | (refine wx5 ?_; clear hk hS a; intro w v hS a hk) | fail) | refine wx0 ?_ | (refine s_end hk ?_; clear hk a; intro a hk) | fail))
    refine sg hk (g_lookup (k := key') hk (hS.rd (A := mapH encSt mv m9) (by (repeat (first | exact At.here | apply At.there)))) ?_ (mT rfl) keySt (oT rfl)); clear hk a; intro a hk
    rw [hM key'] at hk
    (repeat' (first | (show wpListIn _ _ _ _ _ (_ :: _) _ _; first | (refine wx1 ?_; clear hk a; intro a hk) | (refine wx2 ?_ ?_ <;> (intro hp; clear hk a; intro a hk)) | (refine wx3 ?_; clear hk hS a; intro w b hS a hk) | (refine wx4 ?_; clear hk hS a; intro w hS a hk) | (refine wx5 ?_; clear hk hS a; intro w v hS a hk) | fail) | refine wx0 ?_ | (refine s_end hk ?_; clear hk a; intro a hk) | fail))
    refine su hk (g_mapUpdate (k := key') (u := .int .i64 ((cntK key' (ks.take i) : Int) + 1)) hk hS ?_ (mT rfl) keySt); clear hk hS a; intro w hS a hk
    have hM2 : ∀ c, (getL (setL m9 key' (.int .i64 ((cntK key' (ks.take i) : Int) + 1))) c).getD (.int .i64 0) = .int .i64 (cntK c (ks.take (i + 1)) : Int) := by
      intro c
      rw [getL_set, hcs c]
      by_cases e : c = key'
      · subst e; rw [if_pos rfl, if_pos rfl]; simp
      · rw [if_neg e, if_neg (fun h => e h.symm)]; simpa using hM c
    by_cases hne : key' = ⟨#[]⟩
    · (repeat' (first | (show wpListIn _ _ _ _ _ (_ :: _) _ _; first | (refine wx1 ?_; clear hk a; intro a hk) | (refine wx2 ?_ ?_ <;> (intro hp; clear hk a; intro a hk)) | (refine wx3 ?_; clear hk hS a; intro w b hS a hk) | (refine wx4 ?_; clear hk hS a; intro w hS a hk) | (refine wx5 ?_; clear hk hS a; intro w v hS a hk) | fail) | refine wx0 ?_ | (refine s_end hk ?_; clear hk a; intro a hk) | fail))
      exact ⟨hil, _, hk.sd, hS.sb, hM2, fun c hc => by rw [hcs c, if_neg (fun h => hc (by rw [← h]; exact hne))]; exact hO c hc⟩
    · (repeat' (first | (show wpListIn _ _ _ _ _ (_ :: _) _ _; first | (refine wx1 ?_; clear hk a; intro a hk) | (refine wx2 ?_ ?_ <;> (intro hp; clear hk a; intro a hk)) | (refine wx3 ?_; clear hk hS a; intro w b hS a hk) | (refine wx4 ?_; clear hk hS a; intro w hS a hk) | (refine wx5 ?_; clear hk hS a; intro w v hS a hk) | fail) | refine wx0 ?_ | (refine s_end hk ?_; clear hk a; intro a hk) | fail))
      refine sg hk (g_lookup (k := key') hk (hS.rd (A := mapH encSt mv _) (by (repeat (first | exact At.here | apply At.there)))) ?_ (mT rfl) keySt (oT rfl)); clear hk a; intro a hk
      rw [hM2 key'] at hk
      have hck : cntK key' (ks.take (i + 1)) = cntK key' (ks.take i) + 1 := by rw [hcs key', if_pos rfl]
      (repeat' (first | (show wpListIn _ _ _ _ _ (_ :: _) _ _; first | (refine wx1 ?_; clear hk a; intro a hk) | (refine wx2 ?_ ?_ <;> (intro hp; clear hk a; intro a hk)) | (refine wx3 ?_; clear hk hS a; intro w b hS a hk) | (refine wx4 ?_; clear hk hS a; intro w hS a hk) | (refine wx5 ?_; clear hk hS a; intro w v hS a hk) | fail) | refine wx0 ?_ | (refine s_end hk ?_; clear hk a; intro a hk) | fail))
      · exact done1 hk (h := ⟨by rw [twc_true hne (j := i + 1) (by omega)], hS.nil⟩)
      · refine ⟨hil, _, hk.sd, hS.sb, hM2, fun c hc => ?_⟩
        by_cases e : key' = c
        · subst e; omega
        · rw [hcs c, if_neg e]; exact hO c hc
  · have : i = ks.length := by omega
    subst this
    rw [List.take_length] at hO
    (repeat' (first | (show wpListIn _ _ _ _ _ (_ :: _) _ _; first | (refine wx1 ?_; clear hk a; intro a hk) | (refine wx2 ?_ ?_ <;> (intro hp; clear hk a; intro a hk)) | (refine wx3 ?_; clear hk hS a; intro w b hS a hk) | (refine wx4 ?_; clear hk hS a; intro w hS a hk) | (refine wx5 ?_; clear hk hS a; intro w v hS a hk) | fail) | refine wx0 ?_ | (refine s_end hk ?_; clear hk a; intro a hk) | fail))
    exact done1 hk (h := ⟨by rw [twc_false hO], hS.nil⟩)

theorem chk_bnd : ∀ (n : Nat) (t : Tree) (deep depth left : Int), SizeOf.sizeOf t < n → left - cnt t ≤ (chkT t deep depth left).2 ∧ (chkT t deep depth left).2 ≤ left
  | 0, _, _, _, _, h => by omega
  | n + 1, .mk k tag key text cl al sl o kids, deep, depth, left, h => by
    have hk : ∀ t ∈ kids, ∀ deep depth left, left - cnt t ≤ (chkT t deep depth left).2 ∧ (chkT t deep depth left).2 ≤ left := fun t ht deep depth left => chk_bnd n t deep depth left (by have := kid_lt (k := k) (tag := tag) (key := key) (text := text) (cl := cl) (at_ := al) (st := sl) (o := o) ht; omega)
    have hL : ∀ (ts : List Tree), (∀ t ∈ ts, ∀ deep depth left, left - cnt t ≤ (chkT t deep depth left).2 ∧ (chkT t deep depth left).2 ≤ left) → ∀ deep depth left, left - cntL ts ≤ (chkL ts deep depth left).2 ∧ (chkL ts deep depth left).2 ≤ left := by
      intro ts
      induction ts with
      | nil => intro _ deep depth left; simp [chkL, cntL]
      | cons t ts ih =>
        intro hh deep depth left
        have h1 := hh t (by simp) deep depth left
        have h2 := ih (fun t ht => hh t (by simp [ht])) deep depth (chkT t deep depth left).2
        rw [chkL]
        simp only [cntL]
        split <;> omega
    have := hL kids hk (deep + 1) depth (left - 1)
    rw [chkT]
    simp only [cnt]
    split
    · simp only; omega
    · split
      · simp only; omega
      · split
        · simp only; omega
        · split
          · simp only; omega
          · split
            · simp only; omega
            · omega
theorem chkL_bnd (ts : List Tree) (deep depth left : Int) : left - cntL ts ≤ (chkL ts deep depth left).2 ∧ (chkL ts deep depth left).2 ≤ left := by
  induction ts generalizing left with
  | nil => simp [chkL, cntL]
  | cons t ts ih =>
    have h1 := chk_bnd _ t deep depth left (Nat.lt_succ_self _)
    have h2 := ih (chkT t deep depth left).2
    rw [chkL]
    simp only [cntL]
    split <;> omega
end Go.Proofs.YtkcjkbnbblpomaaGreatDoor
namespace Go.Proofs.YtkcjkbnbblpomaaGreatDoor
open Go.RowKit
set_option maxRecDepth 100000
attribute [local irreducible] Go.Code.wpIn Go.wpListIn Go.Calls Gives Go.Exit.then Go.Exit.inBlock Done ObxE

set_option maxHeartbeats 8000000 in
theorem check7_any (bw : Nat) (depth : Int) : ∀ (n : Nat) (t : Tree) (h : NdH) (B : Bs) (L : List HP) (w : World) (deep left : Int), SizeOf.sizeOf t < n → Fits t → Siz 1000000 t → TrR B.g t h → -1000000000 ≤ left - cnt t → left ≤ 1000000000 → -1000000000 ≤ deep → deep + cnt t ≤ 1000000000 →
    St B (pts bw [.int .i64 depth, .int .i64 left] 120 :: L) w → Calls Tryz.prog 60 #[.pointer (some ⟨bw, 0, none⟩), ndV h, .int .i64 deep] w (Ret fun v w' => v = .int .i64 (chkT t deep depth left).1 ∧ St B (pts bw [.int .i64 depth, .int .i64 (chkT t deep depth left).2] 120 :: L) w')
  | 0, _, _, _, _, _, _, _, hn, _, _, _, _, _, _, _, _ => by omega
  | n + 1, t, h, B, L, w, deep, left, hn, hf, hz, hr, b1, b2, b3, b4, hS => by
    have ih := check7_any bw depth n
    obtain ⟨k, tag, key, text, cl, al, sl, e, lv, m, d, p, q, kids, a1, m1, a2, m2, a3, m3, a4, m4, H, rfl, rfl, c1, c2, c3, c4, hF⟩ := hr.split
    obtain ⟨l1, l2, l3, l4, l5⟩ := hf
    obtain ⟨z1, z2, z3, z4, z5, z6, z7⟩ := hz
    have hHk : H.length = kids.length := hF.1
    have hnz := Siz.names z4 z5 z6
    have hcn : (cnt (.mk k tag key text cl al sl (e, lv, m, d, p, q) kids) : Int) = cntL kids + 1 := by simp only [cnt]; omega
    rw [hcn] at b1 b4
    have hck : ∀ deep left, chkT (.mk k tag key text cl al sl (e, lv, m, d, p, q) kids) deep depth left = if depth < deep then (7, left - 1)
      else if left - 1 < 0 then (8, left - 1)
      else if mayB k tag key text cl al sl (e, lv, m, d, p, q) kids = false then (4, left - 1)
      else if (namesL cl al sl).any rsvS = true then (6, left - 1)
      else if twcB (kids.map Tree.key) = true then (5, left - 1)
      else chkL kids (deep + 1) depth (left - 1) := fun deep left => by rw [chkT]
    rw [hck]
    clear hck hcn
    have hma := fun w0 c1 c2 c3 c4 hF => may7_any k tag key text cl al sl e lv m d p q kids a1 a2 a3 a4 m1 m2 m3 m4 H w0 c1 c2 c3 c4 hF l1 l2 l3 l4 z1 z2 z3 (fun x hx => (z5 x hx).2) hnz
    have htw := fun w0 c1 c2 c3 c4 hF => twice_any k tag key text cl al sl e lv m d p q kids a1 a2 a3 a4 m1 m2 m3 m4 H w0 c1 c2 c3 c4 hF l1 l2 l3 l4
    generalize mayB k tag key text cl al sl (e, lv, m, d, p, q) kids = bm at *
    generalize twcB (kids.map Tree.key) = bt at *
    have hnn : ∀ w0 v (hv : SlT (namesL cl al sl) v w0), Calls Tryz.prog 108 #[v, .func (.func 110) #[] #[]] w0 (Ret fun v w => v = .bool ((namesL cl al sl).any rsvS) ∧ St w0 [] w) :=
      fun w0 v hv => anyN_any rsvS (namesL cl al sl) 110 v w0 hv (by have := names_len l1 l2 l3; omega) (by kernel_rfl) (fun x hx w => reserved_any x w)
    generalize hbn : (namesL cl al sl).any rsvS = bn at *
    show Calls Tryz.prog 60 #[.pointer (some ⟨bw, 0, none⟩), .agg #[.int .i64 k, .string tag, .string key, .string text, .slice a1 cl.length m1, .slice a2 al.length m2, .slice a3 sl.length m3, .int .i64 e, .int .i64 lv, .int .i64 m, .int .i64 d, .bool p, .bool q, .slice a4 H.length m4], .int .i64 deep] w _
    refine enter Tryz.func60 rfl Tryz.ntmps60 rfl (fun a hk => ?_)
    by_cases hd : depth < deep
    · rw [if_pos hd]
      (repeat' (first | (show wpListIn _ _ _ _ _ (_ :: _) _ _; first | (refine wx1 ?_; clear hk a; intro a hk) | (refine wx2 ?_ ?_ <;> (intro hp; clear hk a; intro a hk)) | (refine wx3 ?_; clear hk hS a; intro w b hS a hk) | (refine wx4 ?_; clear hk hS a; intro w hS a hk) | (refine wx5 ?_; clear hk hS a; intro w v hS a hk) | fail) | refine wx0 ?_ | (refine s_end hk ?_; clear hk a; intro a hk) | fail))
      exact done1 hk (h := ⟨rfl, (hS.sub (.cons (by (repeat (first | exact At.here | apply At.there))) (by repeat (first | exact Sub.refl | apply Sub.under))))⟩)
    · rw [if_neg hd]
      by_cases hl : left - 1 < 0
      · rw [if_pos hl]
        (repeat' (first | (show wpListIn _ _ _ _ _ (_ :: _) _ _; first | (refine wx1 ?_; clear hk a; intro a hk) | (refine wx2 ?_ ?_ <;> (intro hp; clear hk a; intro a hk)) | (refine wx3 ?_; clear hk hS a; intro w b hS a hk) | (refine wx4 ?_; clear hk hS a; intro w hS a hk) | (refine wx5 ?_; clear hk hS a; intro w v hS a hk) | fail) | refine wx0 ?_ | (refine s_end hk ?_; clear hk a; intro a hk) | fail))
        exact done1 hk (h := ⟨rfl, (hS.sub (.cons (by (repeat (first | exact At.here | apply At.there))) (by repeat (first | exact Sub.refl | apply Sub.under))))⟩)
      · rw [if_neg hl]
        (repeat' (first | (show wpListIn _ _ _ _ _ (_ :: _) _ _; first | (refine wx1 ?_; clear hk a; intro a hk) | (refine wx2 ?_ ?_ <;> (intro hp; clear hk a; intro a hk)) | (refine wx3 ?_; clear hk hS a; intro w b hS a hk) | (refine wx4 ?_; clear hk hS a; intro w hS a hk) | (refine wx5 ?_; clear hk hS a; intro w v hS a hk) | fail) | refine wx0 ?_ | (refine s_end hk ?_; clear hk a; intro a hk) | fail))
        refine sg hk (g_callO hk (hf := by kernel_rfl) (hc := hma _ (hS.rdT c1) (hS.rdT c2) (hS.rdT c3) (hS.rdT c4) (hS.rdFo hF)) (h := ?_)); clear hk a; rintro _ w ⟨rfl, hS1⟩ a hk; replace hS := hS.call0 hS1; clear hS1
        cases bm with
        | false =>
          rw [if_pos rfl]
          (repeat' (first | (show wpListIn _ _ _ _ _ (_ :: _) _ _; first | (refine wx1 ?_; clear hk a; intro a hk) | (refine wx2 ?_ ?_ <;> (intro hp; clear hk a; intro a hk)) | (refine wx3 ?_; clear hk hS a; intro w b hS a hk) | (refine wx4 ?_; clear hk hS a; intro w hS a hk) | (refine wx5 ?_; clear hk hS a; intro w v hS a hk) | fail) | refine wx0 ?_ | (refine s_end hk ?_; clear hk a; intro a hk) | fail))
          exact done1 hk (h := ⟨rfl, (hS.sub (.cons (by (repeat (first | exact At.here | apply At.there))) (by repeat (first | exact Sub.refl | apply Sub.under))))⟩)
        | true =>
          rw [if_neg (by decide)]
          (repeat' (first | (show wpListIn _ _ _ _ _ (_ :: _) _ _; first | (refine wx1 ?_; clear hk a; intro a hk) | (refine wx2 ?_ ?_ <;> (intro hp; clear hk a; intro a hk)) | (refine wx3 ?_; clear hk hS a; intro w b hS a hk) | (refine wx4 ?_; clear hk hS a; intro w hS a hk) | (refine wx5 ?_; clear hk hS a; intro w v hS a hk) | fail) | refine wx0 ?_ | (refine s_end hk ?_; clear hk a; intro a hk) | fail))
          refine sg hk (g_callO hk (hf := by kernel_rfl) (hc := names7_any k tag key text cl al sl e lv m d p q kids a1 a2 a3 a4 m1 m2 m3 m4 H _ (hS.rdT c1) (hS.rdT c2) (hS.rdT c3) (hS.rdT c4) (hS.rdFo hF) l1 l2 l3 l4) (h := ?_)); clear hk a; rintro vn w hS1 a hk; replace hS := hS.call hS1; clear hS1
          rw [List.cons_append, List.nil_append] at hS
          refine sg hk (g_callO hk (hf := by kernel_rfl) (hc := hnn _ vn (by first | exact St.rdT hS (by assumption) | exact OwT.rd (hS.rd (A := OwT _ _ _) (by (repeat (first | exact At.here | apply At.there)))) | assumption)) (h := ?_)); clear hk a; rintro _ w ⟨rfl, hS1⟩ a hk; replace hS := hS.call0 hS1; clear hS1
          cases bn with
          | true =>
            rw [if_pos rfl]
            (repeat' (first | (show wpListIn _ _ _ _ _ (_ :: _) _ _; first | (refine wx1 ?_; clear hk a; intro a hk) | (refine wx2 ?_ ?_ <;> (intro hp; clear hk a; intro a hk)) | (refine wx3 ?_; clear hk hS a; intro w b hS a hk) | (refine wx4 ?_; clear hk hS a; intro w hS a hk) | (refine wx5 ?_; clear hk hS a; intro w v hS a hk) | fail) | refine wx0 ?_ | (refine s_end hk ?_; clear hk a; intro a hk) | fail))
            exact done1 hk (h := ⟨rfl, (hS.sub (.cons (by (repeat (first | exact At.here | apply At.there))) (by repeat (first | exact Sub.refl | apply Sub.under))))⟩)
          | false =>
            rw [if_neg (by decide)]
            (repeat' (first | (show wpListIn _ _ _ _ _ (_ :: _) _ _; first | (refine wx1 ?_; clear hk a; intro a hk) | (refine wx2 ?_ ?_ <;> (intro hp; clear hk a; intro a hk)) | (refine wx3 ?_; clear hk hS a; intro w b hS a hk) | (refine wx4 ?_; clear hk hS a; intro w hS a hk) | (refine wx5 ?_; clear hk hS a; intro w v hS a hk) | fail) | refine wx0 ?_ | (refine s_end hk ?_; clear hk a; intro a hk) | fail))
            refine sg hk (g_callO hk (hf := by kernel_rfl) (hc := htw _ (hS.rdT c1) (hS.rdT c2) (hS.rdT c3) (hS.rdT c4) (hS.rdFo hF)) (h := ?_)); clear hk a; rintro _ w ⟨rfl, hS1⟩ a hk; replace hS := hS.call0 hS1; clear hS1
            cases bt with
            | true =>
              rw [if_pos rfl]
              (repeat' (first | (show wpListIn _ _ _ _ _ (_ :: _) _ _; first | (refine wx1 ?_; clear hk a; intro a hk) | (refine wx2 ?_ ?_ <;> (intro hp; clear hk a; intro a hk)) | (refine wx3 ?_; clear hk hS a; intro w b hS a hk) | (refine wx4 ?_; clear hk hS a; intro w hS a hk) | (refine wx5 ?_; clear hk hS a; intro w v hS a hk) | fail) | refine wx0 ?_ | (refine s_end hk ?_; clear hk a; intro a hk) | fail))
              exact done1 hk (h := ⟨rfl, (hS.sub (.cons (by (repeat (first | exact At.here | apply At.there))) (by repeat (first | exact Sub.refl | apply Sub.under))))⟩)
            | false =>
              rw [if_neg (by decide)]
              have hv4 := hS.rdT c4
              (repeat' (first | (show wpListIn _ _ _ _ _ (_ :: _) _ _; first | (refine wx1 ?_; clear hk a; intro a hk) | (refine wx2 ?_ ?_ <;> (intro hp; clear hk a; intro a hk)) | (refine wx3 ?_; clear hk hS a; intro w b hS a hk) | (refine wx4 ?_; clear hk hS a; intro w hS a hk) | (refine wx5 ?_; clear hk hS a; intro w v hS a hk) | fail) | refine wx0 ?_ | (refine s_end hk ?_; clear hk a; intro a hk) | fail))
              replace hk := Kn.kp [0, 2, 42, 43, 44] hk
              refine wp_for H.length (fun i _ => [(44, .int .i64 (i : Int))]) (fun i x => pts bw [.int .i64 depth, .int .i64 x] 120 :: L) (fun i x => chkL (kids.take i) (deep + 1) depth (left - 1) = (0, x)) (left - 1) hk (by repeat (first | exact trivial | refine ⟨rfl, ?_⟩)) (hS.sub (.cons (by (repeat (first | exact At.here | apply At.there))) (by repeat (first | exact Sub.refl | apply Sub.under)))) (by rw [List.take_zero, chkL]) ?_
              clear hk hS a hv4
              rintro i x a w hi hk hS hC
              have hv4 := hS.rdT c4
              by_cases hil : i < H.length
              · obtain ⟨tk, htk⟩ : ∃ t, kids[i]? = some t := ⟨_, List.getElem?_eq_getElem (by omega)⟩
                obtain ⟨hd0, hx⟩ : ∃ x, H[i]? = some x := ⟨_, List.getElem?_eq_getElem hil⟩
                have hTr := hF.2 i tk hd0 htk hx
                have hfk := l5 tk (List.mem_of_getElem? htk)
                have hzk := z7 tk (List.mem_of_getElem? htk)
                have hlt : SizeOf.sizeOf tk < n := by have := kid_lt (k := k) (tag := tag) (key := key) (text := text) (cl := cl) (at_ := al) (st := sl) (o := (e, lv, m, d, p, q)) (List.mem_of_getElem? htk); omega
                have hbd := chkL_bnd (kids.take i) (deep + 1) depth (left - 1)
                rw [hC] at hbd
                simp only at hbd
                have hct : cntL (kids.take i) + cnt tk ≤ cntL kids := by
                  have h1 := cntL_app (kids.take (i + 1)) (kids.drop (i + 1))
                  rw [List.take_append_drop, take_snoc htk, cntL_app] at h1
                  simp only [cntL] at h1
                  omega
                have hsn := chkL_snoc (kids.take i) tk (deep + 1) depth (left - 1) (by rw [hC])
                rw [hC, ← take_snoc htk] at hsn
                simp only at hsn
                have hcp := cnt_pos tk
                obtain ⟨k0, tag0, key0, text0, ⟨x1, x2, x3⟩, ⟨y1, y2, y3⟩, ⟨zz1, zz2, zz3⟩, ⟨e0, lv0, m0, d0, p0, q0⟩, ⟨u1, u2, u3⟩⟩ := hd0
                (repeat' (first | (show wpListIn _ _ _ _ _ (_ :: _) _ _; first | (refine wx1 ?_; clear hk a; intro a hk) | (refine wx2 ?_ ?_ <;> (intro hp; clear hk a; intro a hk)) | (refine wx3 ?_; clear hk hS a; intro w b hS a hk) | (refine wx4 ?_; clear hk hS a; intro w hS a hk) | (refine wx5 ?_; clear hk hS a; intro w v hS a hk) | fail) | refine wx0 ?_ | (refine s_end hk ?_; clear hk a; intro a hk) | fail))
                refine sg hk (g_callO hk (hf := by kernel_rfl) (hc := ih tk (k0, tag0, key0, text0, ⟨x1, x2, x3⟩, ⟨y1, y2, y3⟩, ⟨zz1, zz2, zz3⟩, (e0, lv0, m0, d0, p0, q0), ⟨u1, u2, u3⟩) B _ _ (deep + 1) x hlt hfk hzk hTr (by omega) (by omega) (by omega) (by omega) (hS.sub (.cons (by (repeat (first | exact At.here | apply At.there))) .refl))) (h := ?_)); clear hk hS a; intro vr w hS a hk
                obtain ⟨rfl, hS⟩ := hS
                by_cases hne : (chkT tk (deep + 1) depth x).1 = 0
                · (repeat' (first | (show wpListIn _ _ _ _ _ (_ :: _) _ _; first | (refine wx1 ?_; clear hk a; intro a hk) | (refine wx2 ?_ ?_ <;> (intro hp; clear hk a; intro a hk)) | (refine wx3 ?_; clear hk hS a; intro w b hS a hk) | (refine wx4 ?_; clear hk hS a; intro w hS a hk) | (refine wx5 ?_; clear hk hS a; intro w v hS a hk) | fail) | refine wx0 ?_ | (refine s_end hk ?_; clear hk a; intro a hk) | fail))
                  refine ⟨hil, (chkT tk (deep + 1) depth x).2, hk.sd, (hS.sub (.cons (by (repeat (first | exact At.here | apply At.there))) (by repeat (first | exact Sub.refl | apply Sub.under)))), by rw [hsn]; exact Prod.ext hne rfl⟩
                · (repeat' (first | (show wpListIn _ _ _ _ _ (_ :: _) _ _; first | (refine wx1 ?_; clear hk a; intro a hk) | (refine wx2 ?_ ?_ <;> (intro hp; clear hk a; intro a hk)) | (refine wx3 ?_; clear hk hS a; intro w b hS a hk) | (refine wx4 ?_; clear hk hS a; intro w hS a hk) | (refine wx5 ?_; clear hk hS a; intro w v hS a hk) | fail) | refine wx0 ?_ | (refine s_end hk ?_; clear hk a; intro a hk) | fail))
                  have hfin : chkL kids (deep + 1) depth (left - 1) = chkT tk (deep + 1) depth x := by
                    have h1 := chkL_app (kids.take (i + 1)) (kids.drop (i + 1)) (deep + 1) depth (left - 1)
                    rw [List.take_append_drop, hsn, if_neg hne] at h1
                    exact h1
                  rw [hfin]
                  exact done1 hk (h := ⟨rfl, (hS.sub (.cons (by (repeat (first | exact At.here | apply At.there))) (by repeat (first | exact Sub.refl | apply Sub.under))))⟩)
              · have hii : i = kids.length := by omega
                subst hii
                rw [List.take_length] at hC
                (repeat' (first | (show wpListIn _ _ _ _ _ (_ :: _) _ _; first | (refine wx1 ?_; clear hk a; intro a hk) | (refine wx2 ?_ ?_ <;> (intro hp; clear hk a; intro a hk)) | (refine wx3 ?_; clear hk hS a; intro w b hS a hk) | (refine wx4 ?_; clear hk hS a; intro w hS a hk) | (refine wx5 ?_; clear hk hS a; intro w v hS a hk) | fail) | refine wx0 ?_ | (refine s_end hk ?_; clear hk a; intro a hk) | fail))
                rw [hC]
                exact done1 hk (h := ⟨rfl, (hS.sub (.cons (by (repeat (first | exact At.here | apply At.there))) (by repeat (first | exact Sub.refl | apply Sub.under))))⟩)

theorem clip_any (x lo hi : Int) (w0 : World) : Calls Tryz.prog 59 #[.int .i64 x, .int .i64 lo, .int .i64 hi] w0 (Ret fun v w => v = .int .i64 (max lo (min x hi)) ∧ St w0 [] w) := by
  refine enter Tryz.func59 rfl Tryz.ntmps59 rfl (fun a hk => ?_); have hS := St.refl w0
  (repeat' (first | (show wpListIn _ _ _ _ _ (_ :: _) _ _; first | (refine wx1 ?_; clear hk a; intro a hk) | (refine wx2 ?_ ?_ <;> (intro hp; clear hk a; intro a hk)) | (refine wx3 ?_; clear hk hS a; intro w b hS a hk) | (refine wx4 ?_; clear hk hS a; intro w hS a hk) | (refine wx5 ?_; clear hk hS a; intro w v hS a hk) | fail) | refine wx0 ?_ | (refine s_end hk ?_; clear hk a; intro a hk) | fail))
  exact done1 hk (h := ⟨rfl, hS.nil⟩)
def chk7 (t : Tree) (depth nodes : Int) : Int := (chkT t 1 (max 1 (min depth 20)) (max 1 (min nodes 4096))).1
theorem Check7_any (t : Tree) (h : NdH) (depth nodes : Int) (w0 : World) (hf : Fits t) (hz : Siz 1000000 t) (hc : cnt t ≤ 1000000) (hr : TrR w0 t h) :
    Calls Tryz.prog 28 #[ndV h, .int .i64 depth, .int .i64 nodes] w0 (Ret fun v w => v = .int .i64 (chk7 t depth nodes) ∧ St w0 [] w) := by
  have hr0 := hr
  obtain ⟨k, tag, key, text, cl, al, sl, e, lv, m, d, p, q, kids, a1, m1, a2, m2, a3, m3, a4, m4, H, rfl, rfl, -⟩ := hr.split
  show Calls Tryz.prog 28 #[.agg #[.int .i64 k, .string tag, .string key, .string text, .slice a1 cl.length m1, .slice a2 al.length m2, .slice a3 sl.length m3, .int .i64 e, .int .i64 lv, .int .i64 m, .int .i64 d, .bool p, .bool q, .slice a4 H.length m4], .int .i64 depth, .int .i64 nodes] w0 _
  refine enter Tryz.func28 rfl Tryz.ntmps28 rfl (fun a hk => ?_); have hS := St.refl w0
  (repeat' (first | (show wpListIn _ _ _ _ _ (_ :: _) _ _; first | (refine wx1 ?_; clear hk a; intro a hk) | (refine wx2 ?_ ?_ <;> (intro hp; clear hk a; intro a hk)) | (refine wx3 ?_; clear hk hS a; intro w b hS a hk) | (refine wx4 ?_; clear hk hS a; intro w hS a hk) | (refine wx5 ?_; clear hk hS a; intro w v hS a hk) | fail) | refine wx0 ?_ | (refine s_end hk ?_; clear hk a; intro a hk) | fail))
  refine sg hk (g_callO hk (hf := by kernel_rfl) (hc := clip_any depth 1 20 _) (h := ?_)); clear hk a; rintro _ w ⟨rfl, hS1⟩ a hk; replace hS := hS.call0 hS1; clear hS1
  (repeat' (first | (show wpListIn _ _ _ _ _ (_ :: _) _ _; first | (refine wx1 ?_; clear hk a; intro a hk) | (refine wx2 ?_ ?_ <;> (intro hp; clear hk a; intro a hk)) | (refine wx3 ?_; clear hk hS a; intro w b hS a hk) | (refine wx4 ?_; clear hk hS a; intro w hS a hk) | (refine wx5 ?_; clear hk hS a; intro w v hS a hk) | fail) | refine wx0 ?_ | (refine s_end hk ?_; clear hk a; intro a hk) | fail))
  refine sg hk (g_callO hk (hf := by kernel_rfl) (hc := clip_any nodes 1 4096 _) (h := ?_)); clear hk a; rintro _ w ⟨rfl, hS1⟩ a hk; replace hS := hS.call0 hS1; clear hS1
  (repeat' (first | (show wpListIn _ _ _ _ _ (_ :: _) _ _; first | (refine wx1 ?_; clear hk a; intro a hk) | (refine wx2 ?_ ?_ <;> (intro hp; clear hk a; intro a hk)) | (refine wx3 ?_; clear hk hS a; intro w b hS a hk) | (refine wx4 ?_; clear hk hS a; intro w hS a hk) | (refine wx5 ?_; clear hk hS a; intro w v hS a hk) | fail) | refine wx0 ?_ | (refine s_end hk ?_; clear hk a; intro a hk) | fail))
  refine sg hk (g_callO hk (hf := by kernel_rfl) (hc := check7_any b (max 1 (min depth 20)) (SizeOf.sizeOf (Tree.mk k tag key text cl al sl (e, lv, m, d, p, q) kids) + 1) _ (k, tag, key, text, ⟨a1, cl.length, m1⟩, ⟨a2, al.length, m2⟩, ⟨a3, sl.length, m3⟩, (e, lv, m, d, p, q), ⟨a4, H.length, m4⟩) w0 _ _ 1 (max 1 (min nodes 4096)) (by omega) hf hz hr0 (by omega) (by omega) (by omega) (by omega) hS) (h := ?_)); clear hk hS a; intro vr w hS a hk
  obtain ⟨rfl, hS⟩ := hS
  (repeat' (first | (show wpListIn _ _ _ _ _ (_ :: _) _ _; first | (refine wx1 ?_; clear hk a; intro a hk) | (refine wx2 ?_ ?_ <;> (intro hp; clear hk a; intro a hk)) | (refine wx3 ?_; clear hk hS a; intro w b hS a hk) | (refine wx4 ?_; clear hk hS a; intro w hS a hk) | (refine wx5 ?_; clear hk hS a; intro w v hS a hk) | fail) | refine wx0 ?_ | (refine s_end hk ?_; clear hk a; intro a hk) | fail))
  exact done1 hk (h := ⟨rfl, hS.nil⟩)
end Go.Proofs.YtkcjkbnbblpomaaGreatDoor
namespace Go.Proofs.YtkcjkbnbblpomaaGreatDoor
open Go.RowKit
set_option maxRecDepth 100000
attribute [local irreducible] Go.Code.wpIn Go.wpListIn Go.Calls Gives Go.Exit.then Go.Exit.inBlock Done ObxE

set_option maxHeartbeats 4000000 in
theorem tree07_any (F : List FlH) (v : Value) (most : Nat) (hm1 : 1 ≤ most) (hm2 : most ≤ 1000) (w0 : World) (hv : SlT F v w0) (hR : ∀ h ∈ F, FlR w0 h) :
    Calls Tryz.prog 10 #[v, .int .i64 (most : Int)] w0 (Ret fun u w => ∃ t, Small t ∧ cnt t ≤ most ∧ St w0 [treeH t u] w) := by
  have hF63 : F.length ≤ maxLen := hv.len_le
  simp only [maxLen] at hF63
  refine enter Tryz.func10 rfl Tryz.ntmps10 rfl (fun a hk => ?_); have hS := St.refl w0
  by_cases hgt : most < F.length
  · have hl : (F.take most).length = most := by rw [List.length_take]; omega
    have hRR : ∀ h ∈ F.take most, FlR w0 h := fun h hh => hR h (List.mem_of_mem_take hh)
    (repeat' (first | (show wpListIn _ _ _ _ _ (_ :: _) _ _; first | (refine wx1 ?_; clear hk a; intro a hk) | (refine wx2 ?_ ?_ <;> (intro hp; clear hk a; intro a hk)) | (refine wx3 ?_; clear hk hS a; intro w b hS a hk) | (refine wx4 ?_; clear hk hS a; intro w hS a hk) | (refine wx5 ?_; clear hk hS a; intro w v hS a hk) | fail) | refine wx0 ?_ | (refine s_end hk ?_; clear hk a; intro a hk) | fail))
    refine sg hk (g_partT (j := most) hk ?_ (ht := eT rfl) (hs := (by first | exact St.rdT hS (by assumption) | exact OwT.rd (hS.rd (A := OwT _ _ _) (by (repeat (first | exact At.here | apply At.there)))) | assumption)) (hE := zT rfl) (hj := by omega)); clear hk a; intro vp hvp a hk
    have hv2 := hvp _ hv
    by_cases hF0 : F.take most = []
    · have h0 : (F.take most).length = 0 := by rw [hF0]; rfl
      (repeat' (first | (show wpListIn _ _ _ _ _ (_ :: _) _ _; first | (refine wx1 ?_; clear hk a; intro a hk) | (refine wx2 ?_ ?_ <;> (intro hp; clear hk a; intro a hk)) | (refine wx3 ?_; clear hk hS a; intro w b hS a hk) | (refine wx4 ?_; clear hk hS a; intro w hS a hk) | (refine wx5 ?_; clear hk hS a; intro w v hS a hk) | fail) | refine wx0 ?_ | (refine s_end hk ?_; clear hk a; intro a hk) | fail))
      refine done1R hk rfl (.str hS (hT := aT rfl) (hs := zT rfl)) (h := ⟨.mk 2 ⟨#[112]⟩ ⟨#[]⟩ ⟨#[]⟩ [] [] [] (0, 0, 0, 0, false, false) [], Small.mk ⟨by unfold in64; omega, by decide, by decide, by decide, by simp, by simp, by simp, by simp, by simp, by simp, by unfold in64; exact ⟨by decide, by decide⟩, by unfold in64; exact ⟨by decide, by decide⟩, by unfold in64; exact ⟨by decide, by decide⟩, by unfold in64; exact ⟨by decide, by decide⟩⟩ (by simp), by simp [cnt, cntL]; omega, ?_⟩)
      have hS1 := (((hS.nil.nilT 9 ByteArray).nilT 97 (ByteArray × ByteArray)).nilT 105 (ByteArray × Int)).nilT 31 NdH
      exact treeH.of (h := (2, ⟨#[112]⟩, ⟨#[]⟩, ⟨#[]⟩, ⟨none, 0, 0⟩, ⟨none, 0, 0⟩, ⟨none, 0, 0⟩, (0, 0, 0, 0, false, false), ⟨none, 0, 0⟩)) (treeR.of (A1 := OwT 9 ([] : List ByteArray) (.slice none 0 0)) (A2 := OwT 97 ([] : List (ByteArray × ByteArray)) (.slice none 0 0)) (A3 := OwT 105 ([] : List (ByteArray × Int)) (.slice none 0 0)) (A4 := OwT 31 ([] : List NdH) (.slice none 0 0)) (H := []) (kids := []) ((forR.nil hS1).sub (by (repeat (first | exact Sub.nil | exact Sub.refl | refine Sub.cons (by (repeat (first | exact At.here | apply At.there))) ?_)))))
    · have h1 : 0 < (F.take most).length := List.length_pos_iff.2 hF0
      obtain ⟨x, hx⟩ : ∃ x, (F.take most)[0]? = some x := ⟨_, List.getElem?_eq_getElem h1⟩
      obtain ⟨dp, k, tag, key, text, cl, al, sl, e, lv, m, d, p, q, a1, a2, a3, m1, m2, m3, rfl, c1, c2, c3, b1, b2, b3, b4, b5, b6, b7⟩ := hRR x (List.mem_of_getElem? hx)
      (repeat' (first | (show wpListIn _ _ _ _ _ (_ :: _) _ _; first | (refine wx1 ?_; clear hk a; intro a hk) | (refine wx2 ?_ ?_ <;> (intro hp; clear hk a; intro a hk)) | (refine wx3 ?_; clear hk hS a; intro w b hS a hk) | (refine wx4 ?_; clear hk hS a; intro w hS a hk) | (refine wx5 ?_; clear hk hS a; intro w v hS a hk) | fail) | refine wx0 ?_ | (refine s_end hk ?_; clear hk a; intro a hk) | fail))
      refine sg hk (g_callO hk (hf := by kernel_rfl) (hc := node07_any dp k tag key text cl al sl e lv m d p q a1 a2 a3 m1 m2 m3 _ (hS.rdT c1) (hS.rdT c2) (hS.rdT c3)) (h := ?_)); clear hk a; rintro vn w hS1 a hk; replace hS := hS.call hS1; clear hS1
      rw [List.cons_append, List.nil_append] at hS
      obtain ⟨hd1, rfl, hS1⟩ := St.tree hS .here
      clear hS
      have hS := hS1
      clear hS1
      obtain ⟨k0, tag0, key0, text0, cl0, al0, sl0, e0, lv0, m0, d0, p0, q0, kids0, A1, M1, A2, M2, A3, M3, A4, M4, H0, he, rfl, _⟩ := (hS.trR .here).split
      have hok := okN_node (tag := tag) (key := key) (text := text) (cl := cl) (al := al) (p := p) (q := q) b2 b3 b4 b5 b6 b7
      unfold nodeF at he hS
      injection he with q1 q2 q3 q4 q5 q6 q7 q8 q9
      rw [q1, q2, q3, q4, q5, q6, q7, q8, q9] at hS
      rw [q1, q2, q3, q4, q5, q6, q7, q8] at hok
      clear q1 q2 q3 q4 q5 q6 q7 q8 q9
      (repeat' (first | (show wpListIn _ _ _ _ _ (_ :: _) _ _; first | (refine wx1 ?_; clear hk a; intro a hk) | (refine wx2 ?_ ?_ <;> (intro hp; clear hk a; intro a hk)) | (refine wx3 ?_; clear hk hS a; intro w b hS a hk) | (refine wx4 ?_; clear hk hS a; intro w hS a hk) | (refine wx5 ?_; clear hk hS a; intro w v hS a hk) | fail) | refine wx0 ?_ | (refine s_end hk ?_; clear hk a; intro a hk) | fail))
      refine sg hk (g_callO hk (hf := by kernel_rfl) (hc := kids07_any (F.take most) vp (by omega) ((F.take most).length + 1) 1 dp _ (by omega) (by omega) (hS.rdT hv2) (fun h hh => (hRR h hh).frz hS.frz)) (h := ?_)); clear hk a; rintro vr w ⟨ts2, H2, at2, ak2, ck2, rfl, r1, r2, r3, r4, hS1⟩ a hk; replace hS := hS.call hS1; clear hS1
      rw [List.cons_append, List.cons_append, List.nil_append] at hS
      (repeat' (first | (show wpListIn _ _ _ _ _ (_ :: _) _ _; first | (refine wx1 ?_; clear hk a; intro a hk) | (refine wx2 ?_ ?_ <;> (intro hp; clear hk a; intro a hk)) | (refine wx3 ?_; clear hk hS a; intro w b hS a hk) | (refine wx4 ?_; clear hk hS a; intro w hS a hk) | (refine wx5 ?_; clear hk hS a; intro w v hS a hk) | fail) | refine wx0 ?_ | (refine s_end hk ?_; clear hk a; intro a hk) | fail))
      refine done1R hk rfl (.str hS (hT := aT rfl) (hs := zT rfl)) (h := ⟨.mk k0 tag0 key0 text0 cl0 al0 sl0 (e0, lv0, m0, d0, p0, q0) ts2, .mk hok r4, by simp only [cnt]; omega, ?_⟩)
      have hS1 := treeR.kids (k := k0) (tag := tag0) (key := key0) (text := text0) (cl := cl0) (at_ := al0) (st := sl0) (o := (e0, lv0, m0, d0, p0, q0)) (hc := ⟨A1, cl0.length, M1⟩) (ha := ⟨A2, al0.length, M2⟩) (hs := ⟨A3, sl0.length, M3⟩) (hk0 := ⟨A4, H0.length, M4⟩) (kids := ts2) (kids0 := kids0) (E := 31) (hk := ⟨ak2, H2.length, ck2⟩) (H := H2) (L := []) (hS.sub (by (repeat (first | exact Sub.nil | exact Sub.refl | refine Sub.cons (by (repeat (first | exact At.here | apply At.there))) ?_))))
      exact treeH.of (h := (k0, tag0, key0, text0, ⟨A1, cl0.length, M1⟩, ⟨A2, al0.length, M2⟩, ⟨A3, sl0.length, M3⟩, (e0, lv0, m0, d0, p0, q0), ⟨ak2, H2.length, ck2⟩)) hS1
  · have hRR : ∀ h ∈ F, FlR w0 h := hR
    by_cases hF0 : F = []
    · have h0 : (F).length = 0 := by rw [hF0]; rfl
      (repeat' (first | (show wpListIn _ _ _ _ _ (_ :: _) _ _; first | (refine wx1 ?_; clear hk a; intro a hk) | (refine wx2 ?_ ?_ <;> (intro hp; clear hk a; intro a hk)) | (refine wx3 ?_; clear hk hS a; intro w b hS a hk) | (refine wx4 ?_; clear hk hS a; intro w hS a hk) | (refine wx5 ?_; clear hk hS a; intro w v hS a hk) | fail) | refine wx0 ?_ | (refine s_end hk ?_; clear hk a; intro a hk) | fail))
      refine done1R hk rfl (.str hS (hT := aT rfl) (hs := zT rfl)) (h := ⟨.mk 2 ⟨#[112]⟩ ⟨#[]⟩ ⟨#[]⟩ [] [] [] (0, 0, 0, 0, false, false) [], Small.mk ⟨by unfold in64; omega, by decide, by decide, by decide, by simp, by simp, by simp, by simp, by simp, by simp, by unfold in64; exact ⟨by decide, by decide⟩, by unfold in64; exact ⟨by decide, by decide⟩, by unfold in64; exact ⟨by decide, by decide⟩, by unfold in64; exact ⟨by decide, by decide⟩⟩ (by simp), by simp [cnt, cntL]; omega, ?_⟩)
      have hS1 := (((hS.nil.nilT 9 ByteArray).nilT 97 (ByteArray × ByteArray)).nilT 105 (ByteArray × Int)).nilT 31 NdH
      exact treeH.of (h := (2, ⟨#[112]⟩, ⟨#[]⟩, ⟨#[]⟩, ⟨none, 0, 0⟩, ⟨none, 0, 0⟩, ⟨none, 0, 0⟩, (0, 0, 0, 0, false, false), ⟨none, 0, 0⟩)) (treeR.of (A1 := OwT 9 ([] : List ByteArray) (.slice none 0 0)) (A2 := OwT 97 ([] : List (ByteArray × ByteArray)) (.slice none 0 0)) (A3 := OwT 105 ([] : List (ByteArray × Int)) (.slice none 0 0)) (A4 := OwT 31 ([] : List NdH) (.slice none 0 0)) (H := []) (kids := []) ((forR.nil hS1).sub (by (repeat (first | exact Sub.nil | exact Sub.refl | refine Sub.cons (by (repeat (first | exact At.here | apply At.there))) ?_)))))
    · have h1 : 0 < (F).length := List.length_pos_iff.2 hF0
      obtain ⟨x, hx⟩ : ∃ x, (F)[0]? = some x := ⟨_, List.getElem?_eq_getElem h1⟩
      obtain ⟨dp, k, tag, key, text, cl, al, sl, e, lv, m, d, p, q, a1, a2, a3, m1, m2, m3, rfl, c1, c2, c3, b1, b2, b3, b4, b5, b6, b7⟩ := hRR x (List.mem_of_getElem? hx)
      (repeat' (first | (show wpListIn _ _ _ _ _ (_ :: _) _ _; first | (refine wx1 ?_; clear hk a; intro a hk) | (refine wx2 ?_ ?_ <;> (intro hp; clear hk a; intro a hk)) | (refine wx3 ?_; clear hk hS a; intro w b hS a hk) | (refine wx4 ?_; clear hk hS a; intro w hS a hk) | (refine wx5 ?_; clear hk hS a; intro w v hS a hk) | fail) | refine wx0 ?_ | (refine s_end hk ?_; clear hk a; intro a hk) | fail))
      refine sg hk (g_callO hk (hf := by kernel_rfl) (hc := node07_any dp k tag key text cl al sl e lv m d p q a1 a2 a3 m1 m2 m3 _ (hS.rdT c1) (hS.rdT c2) (hS.rdT c3)) (h := ?_)); clear hk a; rintro vn w hS1 a hk; replace hS := hS.call hS1; clear hS1
      rw [List.cons_append, List.nil_append] at hS
      obtain ⟨hd1, rfl, hS1⟩ := St.tree hS .here
      clear hS
      have hS := hS1
      clear hS1
      obtain ⟨k0, tag0, key0, text0, cl0, al0, sl0, e0, lv0, m0, d0, p0, q0, kids0, A1, M1, A2, M2, A3, M3, A4, M4, H0, he, rfl, _⟩ := (hS.trR .here).split
      have hok := okN_node (tag := tag) (key := key) (text := text) (cl := cl) (al := al) (p := p) (q := q) b2 b3 b4 b5 b6 b7
      unfold nodeF at he hS
      injection he with q1 q2 q3 q4 q5 q6 q7 q8 q9
      rw [q1, q2, q3, q4, q5, q6, q7, q8, q9] at hS
      rw [q1, q2, q3, q4, q5, q6, q7, q8] at hok
      clear q1 q2 q3 q4 q5 q6 q7 q8 q9
      (repeat' (first | (show wpListIn _ _ _ _ _ (_ :: _) _ _; first | (refine wx1 ?_; clear hk a; intro a hk) | (refine wx2 ?_ ?_ <;> (intro hp; clear hk a; intro a hk)) | (refine wx3 ?_; clear hk hS a; intro w b hS a hk) | (refine wx4 ?_; clear hk hS a; intro w hS a hk) | (refine wx5 ?_; clear hk hS a; intro w v hS a hk) | fail) | refine wx0 ?_ | (refine s_end hk ?_; clear hk a; intro a hk) | fail))
      refine sg hk (g_callO hk (hf := by kernel_rfl) (hc := kids07_any (F) v (by omega) ((F).length + 1) 1 dp _ (by omega) (by omega) (hS.rdT hv) (fun h hh => (hRR h hh).frz hS.frz)) (h := ?_)); clear hk a; rintro vr w ⟨ts2, H2, at2, ak2, ck2, rfl, r1, r2, r3, r4, hS1⟩ a hk; replace hS := hS.call hS1; clear hS1
      rw [List.cons_append, List.cons_append, List.nil_append] at hS
      (repeat' (first | (show wpListIn _ _ _ _ _ (_ :: _) _ _; first | (refine wx1 ?_; clear hk a; intro a hk) | (refine wx2 ?_ ?_ <;> (intro hp; clear hk a; intro a hk)) | (refine wx3 ?_; clear hk hS a; intro w b hS a hk) | (refine wx4 ?_; clear hk hS a; intro w hS a hk) | (refine wx5 ?_; clear hk hS a; intro w v hS a hk) | fail) | refine wx0 ?_ | (refine s_end hk ?_; clear hk a; intro a hk) | fail))
      refine done1R hk rfl (.str hS (hT := aT rfl) (hs := zT rfl)) (h := ⟨.mk k0 tag0 key0 text0 cl0 al0 sl0 (e0, lv0, m0, d0, p0, q0) ts2, .mk hok r4, by simp only [cnt]; omega, ?_⟩)
      have hS1 := treeR.kids (k := k0) (tag := tag0) (key := key0) (text := text0) (cl := cl0) (at_ := al0) (st := sl0) (o := (e0, lv0, m0, d0, p0, q0)) (hc := ⟨A1, cl0.length, M1⟩) (ha := ⟨A2, al0.length, M2⟩) (hs := ⟨A3, sl0.length, M3⟩) (hk0 := ⟨A4, H0.length, M4⟩) (kids := ts2) (kids0 := kids0) (E := 31) (hk := ⟨ak2, H2.length, ck2⟩) (H := H2) (L := []) (hS.sub (by (repeat (first | exact Sub.nil | exact Sub.refl | refine Sub.cons (by (repeat (first | exact At.here | apply At.there))) ?_))))
      exact treeH.of (h := (k0, tag0, key0, text0, ⟨A1, cl0.length, M1⟩, ⟨A2, al0.length, M2⟩, ⟨A3, sl0.length, M3⟩, (e0, lv0, m0, d0, p0, q0), ⟨ak2, H2.length, ck2⟩)) hS1
end Go.Proofs.YtkcjkbnbblpomaaGreatDoor
