/- Layer 7: which views may be: the program. Layer 7: which views may be, with all that is below: the program. Layer 7: views that are the same, in plain words. Layer 7: views that are the same, by the reference. Layer 7: views that are the same, by the program. Layer 7: views that are the same, with all that is below: the program. -/
import Derived.Test.YtipdgobplfkipaaGreatDoorB20
import Derived.Test.YtipdgobplfkipaaGreatDoorB19
set_option linter.all false
namespace Go.Proofs.YtipdgobplfkipaaGreatDoor
open Go.RowKit
set_option maxRecDepth 100000
attribute [local irreducible] Go.Code.wpIn Go.wpListIn Go.Calls Gives Go.Exit.then Go.Exit.inBlock Done ObxE

abbrev encSt : ByteArray → Value := fun s => .string s
theorem keySt : KeyT Tryz.prog 9 encSt := keyStr (sT rfl)
theorem twc_true {ks : List ByteArray} {c : ByteArray} {j : Nat} (h : c ≠ ⟨#[]⟩) (h1 : 1 < cntK c (ks.take j)) : twcB ks = true := by
  have h2 : cntK c (ks.take j) ≤ cntK c ks := List.Sublist.countP_le (List.take_sublist _ _)
  have hm : c ∈ ks := by
    have h3 : 0 < cntK c ks := by omega
    obtain ⟨x, hx, e⟩ := List.countP_pos_iff.1 h3
    rw [decide_eq_true_eq] at e
    rw [← e]; exact hx
  exact List.any_eq_true.2 ⟨c, hm, decide_eq_true ⟨h, by omega⟩⟩
theorem twc_false {ks : List ByteArray} (h : ∀ c, c ≠ ⟨#[]⟩ → cntK c ks ≤ 1) : twcB ks = false := by
  unfold twcB
  rw [List.any_eq_false]
  intro c _
  simp only [decide_eq_true_eq]
  rintro ⟨h1, h2⟩
  have := h c h1
  omega
theorem count_snoc {ks : List ByteArray} {i : Nat} {x : ByteArray} (h : ks[i]? = some x) (c : ByteArray) : cntK c (ks.take (i + 1)) = cntK c (ks.take i) + if x = c then 1 else 0 := by
  unfold cntK
  rw [take_snoc h, List.countP_append, List.countP_singleton]
  by_cases e : x = c
  · rw [if_pos (decide_eq_true e), if_pos e]
  · rw [if_neg (by simpa using e), if_neg e]

set_option maxHeartbeats 4000000 in
theorem twice_any (k : Int) (tag key text : ByteArray) (cl : List ByteArray) (al : List PrS) (sl : List PrI) (e lv m d : Int) (p q : Bool) (kids : List Tree) (a1 a2 a3 a4 : Option Addr) (m1 m2 m3 m4 : Nat) (H : List NdH) (w0 : World) (c1 : SlT cl (.slice a1 cl.length m1) w0) (c2 : SlT al (.slice a2 al.length m2) w0) (c3 : SlT sl (.slice a3 sl.length m3) w0) (c4 : SlT H (.slice a4 H.length m4) w0) (hF : FoR w0 kids H) (l1 : cl.length ≤ 100) (l2 : al.length ≤ 100) (l3 : sl.length ≤ 100) (l4 : kids.length ≤ 1000) :
    Calls Tryz.prog 72 #[.agg #[.int .i64 k, .string tag, .string key, .string text, .slice a1 cl.length m1, .slice a2 al.length m2, .slice a3 sl.length m3, .int .i64 e, .int .i64 lv, .int .i64 m, .int .i64 d, .bool p, .bool q, .slice a4 H.length m4]] w0 (Ret fun v w => v = .bool (twcB (kids.map Tree.key)) ∧ St w0 [] w) := by
  have hHk : H.length = kids.length := hF.1
  refine enter Tryz.func72 rfl Tryz.ntmps72 rfl (fun a hk => ?_); have hS := St.refl w0
  have hv4 := hS.rdT c4
  (repeat' (first | (show wpListIn _ _ _ _ _ (_ :: _) _ _; first | (refine wx1 ?_; clear hk a; intro a hk) | (refine wx2 ?_ ?_ <;> (intro hp; clear hk a; intro a hk)) | (refine wx3 ?_; clear hk hS a; intro w b hS a hk) | (refine wx4 ?_; clear hk hS a; intro w hS a hk) | (refine wx5 ?_; clear hk hS a; intro w v hS a hk) | fail) | refine wx0 ?_ | (refine s_end hk ?_; clear hk a; intro a hk) | fail))
  rename Nat => b1
  refine sg hk (g_makeMap encSt hS ?_); clear hk hS a; intro w mv hS a hk
  have hv4 := hS.rdT c4
  (repeat' (first | (show wpListIn _ _ _ _ _ (_ :: _) _ _; first | (refine wx1 ?_; clear hk a; intro a hk) | (refine wx2 ?_ ?_ <;> (intro hp; clear hk a; intro a hk)) | (refine wx3 ?_; clear hk hS a; intro w b hS a hk) | (refine wx4 ?_; clear hk hS a; intro w hS a hk) | (refine wx5 ?_; clear hk hS a; intro w v hS a hk) | fail) | refine wx0 ?_ | (refine s_end hk ?_; clear hk a; intro a hk) | fail))
  replace hk := Kn.kp [3, 8, 9, 10] hk
  generalize hks : kids.map Tree.key = ks
  have hkl : ks.length = kids.length := by rw [← hks, List.length_map]
  refine wp_for H.length (fun i _ => [(10, .int .i64 (i : Int))]) (fun i m => [mapH encSt mv m]) (fun i m => (∀ c, (getL m c).getD (.int .i64 0) = .int .i64 (cntK c (ks.take i) : Int)) ∧ ∀ c, c ≠ ⟨#[]⟩ → cntK c (ks.take i) ≤ 1) [] hk (by repeat (first | exact trivial | refine ⟨rfl, ?_⟩)) hS.sb ⟨fun c => rfl, fun c _ => by simp [cntK]⟩ ?_
  clear hk hS a hv4
  rintro i m9 a w hi hk hS ⟨hM, hO⟩
  have hv4 := hS.rdT c4
  by_cases hil : i < H.length
  · obtain ⟨tk, htk⟩ : ∃ t, kids[i]? = some t := ⟨_, List.getElem?_eq_getElem (by omega)⟩
    obtain ⟨hd0, hx⟩ : ∃ x, H[i]? = some x := ⟨_, List.getElem?_eq_getElem hil⟩
    have hTr := hF.2 i tk hd0 htk hx
    have hkx : ks[i]? = some tk.key := by rw [← hks, List.getElem?_map, htk]; rfl
    obtain ⟨k', tag', key', text', cl', al', sl', e', lv', m', d', p', q', kids', x1, x2, y1, y2, z1, z2, u1, u2, H', rfl, rfl, _⟩ := hTr.split
    have hkx : ks[i]? = some key' := hkx
    have hcs := count_snoc hkx
    have hct : cntK key' (ks.take i) ≤ i := by
      have := List.countP_le_length (p := fun x => decide (x = key')) (l := ks.take i)
      rw [List.length_take] at this
      unfold cntK
      omega
    (repeat' (first | (show wpListIn _ _ _ _ _ (_ :: _) _ _; first | (refine wx1 ?_; clear hk a; intro a hk) | (refine wx2 ?_ ?_ <;> (intro hp; clear hk a; intro a hk)) | (refine wx3 ?_; clear hk hS a; intro w b hS a hk) | (refine wx4 ?_; clear hk hS a; intro w hS a hk) | (refine wx5 ?_; clear hk hS a; intro w v hS a hk) | fail) | refine wx0 ?_ | (refine s_end hk ?_; clear hk a; intro a hk) | fail))
    refine sg hk (g_lookup (k := key') hk (hS.rd (A := mapH encSt mv m9) (by (repeat (first | exact At.here | apply At.there)))) ?_ (mT rfl) keySt (oT rfl)); clear hk a; intro a hk
    rw [hM key'] at hk
    (repeat' (first | (show wpListIn _ _ _ _ _ (_ :: _) _ _; first | (refine wx1 ?_; clear hk a; intro a hk) | (refine wx2 ?_ ?_ <;> (intro hp; clear hk a; intro a hk)) | (refine wx3 ?_; clear hk hS a; intro w b hS a hk) | (refine wx4 ?_; clear hk hS a; intro w hS a hk) | (refine wx5 ?_; clear hk hS a; intro w v hS a hk) | fail) | refine wx0 ?_ | (refine s_end hk ?_; clear hk a; intro a hk) | fail))
    refine su hk (g_mapUpdate (k := key') (u := .int .i64 ((cntK key' (ks.take i) : Int) + 1)) hk hS ?_ (mT rfl) keySt); clear hk hS a; intro w hS a hk
    have hM2 : ∀ c, (getL (setL m9 key' (.int .i64 ((cntK key' (ks.take i) : Int) + 1))) c).getD (.int .i64 0) = .int .i64 (cntK c (ks.take (i + 1)) : Int) := by
      intro c
      rw [getL_set, hcs c]
      by_cases e : c = key'
      · subst e; rw [if_pos rfl, if_pos rfl]; simp
      · rw [if_neg e, if_neg (fun h => e h.symm)]; simpa using hM c
    by_cases hne : key' = ⟨#[]⟩
    · (repeat' (first | (show wpListIn _ _ _ _ _ (_ :: _) _ _; first | (refine wx1 ?_; clear hk a; intro a hk) | (refine wx2 ?_ ?_ <;> (intro hp; clear hk a; intro a hk)) | (refine wx3 ?_; clear hk hS a; intro w b hS a hk) | (refine wx4 ?_; clear hk hS a; intro w hS a hk) | (refine wx5 ?_; clear hk hS a; intro w v hS a hk) | fail) | refine wx0 ?_ | (refine s_end hk ?_; clear hk a; intro a hk) | fail))
      exact ⟨hil, _, hk.sd, hS.sb, hM2, fun c hc => by rw [hcs c, if_neg (fun h => hc (by rw [← h]; exact hne))]; exact hO c hc⟩
    · (repeat' (first | (show wpListIn _ _ _ _ _ (_ :: _) _ _; first | (refine wx1 ?_; clear hk a; intro a hk) | (refine wx2 ?_ ?_ <;> (intro hp; clear hk a; intro a hk)) | (refine wx3 ?_; clear hk hS a; intro w b hS a hk) | (refine wx4 ?_; clear hk hS a; intro w hS a hk) | (refine wx5 ?_; clear hk hS a; intro w v hS a hk) | fail) | refine wx0 ?_ | (refine s_end hk ?_; clear hk a; intro a hk) | fail))
      refine sg hk (g_lookup (k := key') hk (hS.rd (A := mapH encSt mv _) (by (repeat (first | exact At.here | apply At.there)))) ?_ (mT rfl) keySt (oT rfl)); clear hk a; intro a hk
      rw [hM2 key'] at hk
      have hck : cntK key' (ks.take (i + 1)) = cntK key' (ks.take i) + 1 := by rw [hcs key', if_pos rfl]
      (repeat' (first | (show wpListIn _ _ _ _ _ (_ :: _) _ _; first | (refine wx1 ?_; clear hk a; intro a hk) | (refine wx2 ?_ ?_ <;> (intro hp; clear hk a; intro a hk)) | (refine wx3 ?_; clear hk hS a; intro w b hS a hk) | (refine wx4 ?_; clear hk hS a; intro w hS a hk) | (refine wx5 ?_; clear hk hS a; intro w v hS a hk) | fail) | refine wx0 ?_ | (refine s_end hk ?_; clear hk a; intro a hk) | fail))
      · exact done1 hk (h := ⟨by rw [twc_true hne (j := i + 1) (by omega)], hS.nil⟩)
      · refine ⟨hil, _, hk.sd, hS.sb, hM2, fun c hc => ?_⟩
        by_cases e : key' = c
        · subst e; omega
        · rw [hcs c, if_neg e]; exact hO c hc
  · have : i = ks.length := by omega
    subst this
    rw [List.take_length] at hO
    (repeat' (first | (show wpListIn _ _ _ _ _ (_ :: _) _ _; first | (refine wx1 ?_; clear hk a; intro a hk) | (refine wx2 ?_ ?_ <;> (intro hp; clear hk a; intro a hk)) | (refine wx3 ?_; clear hk hS a; intro w b hS a hk) | (refine wx4 ?_; clear hk hS a; intro w hS a hk) | (refine wx5 ?_; clear hk hS a; intro w v hS a hk) | fail) | refine wx0 ?_ | (refine s_end hk ?_; clear hk a; intro a hk) | fail))
    exact done1 hk (h := ⟨by rw [twc_false hO], hS.nil⟩)

theorem chk_bnd : ∀ (n : Nat) (t : Tree) (deep depth left : Int), SizeOf.sizeOf t < n → left - cnt t ≤ (chkT t deep depth left).2 ∧ (chkT t deep depth left).2 ≤ left
  | 0, _, _, _, _, h => by omega
  | n + 1, .mk k tag key text cl al sl o kids, deep, depth, left, h => by
    have hk : ∀ t ∈ kids, ∀ deep depth left, left - cnt t ≤ (chkT t deep depth left).2 ∧ (chkT t deep depth left).2 ≤ left := fun t ht deep depth left => chk_bnd n t deep depth left (by have := kid_lt (k := k) (tag := tag) (key := key) (text := text) (cl := cl) (at_ := al) (st := sl) (o := o) ht; omega)
    have hL : ∀ (ts : List Tree), (∀ t ∈ ts, ∀ deep depth left, left - cnt t ≤ (chkT t deep depth left).2 ∧ (chkT t deep depth left).2 ≤ left) → ∀ deep depth left, left - cntL ts ≤ (chkL ts deep depth left).2 ∧ (chkL ts deep depth left).2 ≤ left := by
      intro ts
      induction ts with
      | nil => intro _ deep depth left; simp [chkL, cntL]
      | cons t ts ih =>
        intro hh deep depth left
        have h1 := hh t (by simp) deep depth left
        have h2 := ih (fun t ht => hh t (by simp [ht])) deep depth (chkT t deep depth left).2
        rw [chkL]
        simp only [cntL]
        split <;> omega
    have := hL kids hk (deep + 1) depth (left - 1)
    rw [chkT]
    simp only [cnt]
    split
    · simp only; omega
    · split
      · simp only; omega
      · split
        · simp only; omega
        · split
          · simp only; omega
          · split
            · simp only; omega
            · omega
theorem chkL_bnd (ts : List Tree) (deep depth left : Int) : left - cntL ts ≤ (chkL ts deep depth left).2 ∧ (chkL ts deep depth left).2 ≤ left := by
  induction ts generalizing left with
  | nil => simp [chkL, cntL]
  | cons t ts ih =>
    have h1 := chk_bnd _ t deep depth left (Nat.lt_succ_self _)
    have h2 := ih (chkT t deep depth left).2
    rw [chkL]
    simp only [cntL]
    split <;> omega
end Go.Proofs.YtipdgobplfkipaaGreatDoor
namespace Go.Proofs.YtipdgobplfkipaaGreatDoor
open Go.RowKit
set_option maxRecDepth 100000
attribute [local irreducible] Go.Code.wpIn Go.wpListIn Go.Calls Gives Go.Exit.then Go.Exit.inBlock Done ObxE

set_option maxHeartbeats 8000000 in
theorem check7_any (bw : Nat) (depth : Int) : ∀ (n : Nat) (t : Tree) (h : NdH) (B : Bs) (L : List HP) (w : World) (deep left : Int), SizeOf.sizeOf t < n → Fits t → Siz 1000000 t → TrR B.g t h → -1000000000 ≤ left - cnt t → left ≤ 1000000000 → -1000000000 ≤ deep → deep + cnt t ≤ 1000000000 →
    St B (pts bw [.int .i64 depth, .int .i64 left] 100 :: L) w → Calls Tryz.prog 47 #[.pointer (some ⟨bw, 0, none⟩), ndV h, .int .i64 deep] w (Ret fun v w' => v = .int .i64 (chkT t deep depth left).1 ∧ St B (pts bw [.int .i64 depth, .int .i64 (chkT t deep depth left).2] 100 :: L) w')
  | 0, _, _, _, _, _, _, _, hn, _, _, _, _, _, _, _, _ => by omega
  | n + 1, t, h, B, L, w, deep, left, hn, hf, hz, hr, b1, b2, b3, b4, hS => by
    have ih := check7_any bw depth n
    obtain ⟨k, tag, key, text, cl, al, sl, e, lv, m, d, p, q, kids, a1, m1, a2, m2, a3, m3, a4, m4, H, rfl, rfl, c1, c2, c3, c4, hF⟩ := hr.split
    obtain ⟨l1, l2, l3, l4, l5⟩ := hf
    obtain ⟨z1, z2, z3, z4, z5, z6, z7⟩ := hz
    have hHk : H.length = kids.length := hF.1
    have hnz := Siz.names z4 z5 z6
    have hcn : (cnt (.mk k tag key text cl al sl (e, lv, m, d, p, q) kids) : Int) = cntL kids + 1 := by simp only [cnt]; omega
    rw [hcn] at b1 b4
    have hck : ∀ deep left, chkT (.mk k tag key text cl al sl (e, lv, m, d, p, q) kids) deep depth left = if depth < deep then (7, left - 1)
      else if left - 1 < 0 then (8, left - 1)
      else if mayB k tag key text cl al sl (e, lv, m, d, p, q) kids = false then (4, left - 1)
      else if (namesL cl al sl).any rsvS = true then (6, left - 1)
      else if twcB (kids.map Tree.key) = true then (5, left - 1)
      else chkL kids (deep + 1) depth (left - 1) := fun deep left => by rw [chkT]
    rw [hck]
    clear hck hcn
    have hma := fun w0 c1 c2 c3 c4 hF => may7_any k tag key text cl al sl e lv m d p q kids a1 a2 a3 a4 m1 m2 m3 m4 H w0 c1 c2 c3 c4 hF l1 l2 l3 l4 z1 z2 z3 (fun x hx => (z5 x hx).2) hnz
    have htw := fun w0 c1 c2 c3 c4 hF => twice_any k tag key text cl al sl e lv m d p q kids a1 a2 a3 a4 m1 m2 m3 m4 H w0 c1 c2 c3 c4 hF l1 l2 l3 l4
    generalize mayB k tag key text cl al sl (e, lv, m, d, p, q) kids = bm at *
    generalize twcB (kids.map Tree.key) = bt at *
    have hnn : ∀ w0 v (hv : SlT (namesL cl al sl) v w0), Calls Tryz.prog 69 #[v, .func (.func 71) #[] #[]] w0 (Ret fun v w => v = .bool ((namesL cl al sl).any rsvS) ∧ St w0 [] w) :=
      fun w0 v hv => anyN_any rsvS (namesL cl al sl) 71 v w0 hv (by have := names_len l1 l2 l3; omega) (by kernel_rfl) (fun x hx w => reserved_any x w)
    generalize hbn : (namesL cl al sl).any rsvS = bn at *
    show Calls Tryz.prog 47 #[.pointer (some ⟨bw, 0, none⟩), .agg #[.int .i64 k, .string tag, .string key, .string text, .slice a1 cl.length m1, .slice a2 al.length m2, .slice a3 sl.length m3, .int .i64 e, .int .i64 lv, .int .i64 m, .int .i64 d, .bool p, .bool q, .slice a4 H.length m4], .int .i64 deep] w _
    refine enter Tryz.func47 rfl Tryz.ntmps47 rfl (fun a hk => ?_)
    by_cases hd : depth < deep
    · rw [if_pos hd]
      (repeat' (first | (show wpListIn _ _ _ _ _ (_ :: _) _ _; first | (refine wx1 ?_; clear hk a; intro a hk) | (refine wx2 ?_ ?_ <;> (intro hp; clear hk a; intro a hk)) | (refine wx3 ?_; clear hk hS a; intro w b hS a hk) | (refine wx4 ?_; clear hk hS a; intro w hS a hk) | (refine wx5 ?_; clear hk hS a; intro w v hS a hk) | fail) | refine wx0 ?_ | (refine s_end hk ?_; clear hk a; intro a hk) | fail))
      exact done1 hk (h := ⟨rfl, (hS.sub (.cons (by (repeat (first | exact At.here | apply At.there))) (by repeat (first | exact Sub.refl | apply Sub.under))))⟩)
    · rw [if_neg hd]
      by_cases hl : left - 1 < 0
      · rw [if_pos hl]
        (repeat' (first | (show wpListIn _ _ _ _ _ (_ :: _) _ _; first | (refine wx1 ?_; clear hk a; intro a hk) | (refine wx2 ?_ ?_ <;> (intro hp; clear hk a; intro a hk)) | (refine wx3 ?_; clear hk hS a; intro w b hS a hk) | (refine wx4 ?_; clear hk hS a; intro w hS a hk) | (refine wx5 ?_; clear hk hS a; intro w v hS a hk) | fail) | refine wx0 ?_ | (refine s_end hk ?_; clear hk a; intro a hk) | fail))
        exact done1 hk (h := ⟨rfl, (hS.sub (.cons (by (repeat (first | exact At.here | apply At.there))) (by repeat (first | exact Sub.refl | apply Sub.under))))⟩)
      · rw [if_neg hl]
        (repeat' (first | (show wpListIn _ _ _ _ _ (_ :: _) _ _; first | (refine wx1 ?_; clear hk a; intro a hk) | (refine wx2 ?_ ?_ <;> (intro hp; clear hk a; intro a hk)) | (refine wx3 ?_; clear hk hS a; intro w b hS a hk) | (refine wx4 ?_; clear hk hS a; intro w hS a hk) | (refine wx5 ?_; clear hk hS a; intro w v hS a hk) | fail) | refine wx0 ?_ | (refine s_end hk ?_; clear hk a; intro a hk) | fail))
        refine sg hk (g_callO hk (hf := by kernel_rfl) (hc := hma _ (hS.rdT c1) (hS.rdT c2) (hS.rdT c3) (hS.rdT c4) (hS.rdFo hF)) (h := ?_)); clear hk a; rintro _ w ⟨rfl, hS1⟩ a hk; replace hS := hS.call0 hS1; clear hS1
        cases bm with
        | false =>
          rw [if_pos rfl]
          (repeat' (first | (show wpListIn _ _ _ _ _ (_ :: _) _ _; first | (refine wx1 ?_; clear hk a; intro a hk) | (refine wx2 ?_ ?_ <;> (intro hp; clear hk a; intro a hk)) | (refine wx3 ?_; clear hk hS a; intro w b hS a hk) | (refine wx4 ?_; clear hk hS a; intro w hS a hk) | (refine wx5 ?_; clear hk hS a; intro w v hS a hk) | fail) | refine wx0 ?_ | (refine s_end hk ?_; clear hk a; intro a hk) | fail))
          exact done1 hk (h := ⟨rfl, (hS.sub (.cons (by (repeat (first | exact At.here | apply At.there))) (by repeat (first | exact Sub.refl | apply Sub.under))))⟩)
        | true =>
          rw [if_neg (by decide)]
          (repeat' (first | (show wpListIn _ _ _ _ _ (_ :: _) _ _; first | (refine wx1 ?_; clear hk a; intro a hk) | (refine wx2 ?_ ?_ <;> (intro hp; clear hk a; intro a hk)) | (refine wx3 ?_; clear hk hS a; intro w b hS a hk) | (refine wx4 ?_; clear hk hS a; intro w hS a hk) | (refine wx5 ?_; clear hk hS a; intro w v hS a hk) | fail) | refine wx0 ?_ | (refine s_end hk ?_; clear hk a; intro a hk) | fail))
          refine sg hk (g_callO hk (hf := by kernel_rfl) (hc := names7_any k tag key text cl al sl e lv m d p q kids a1 a2 a3 a4 m1 m2 m3 m4 H _ (hS.rdT c1) (hS.rdT c2) (hS.rdT c3) (hS.rdT c4) (hS.rdFo hF) l1 l2 l3 l4) (h := ?_)); clear hk a; rintro vn w hS1 a hk; replace hS := hS.call hS1; clear hS1
          rw [List.cons_append, List.nil_append] at hS
          refine sg hk (g_callO hk (hf := by kernel_rfl) (hc := hnn _ vn (by first | exact St.rdT hS (by assumption) | exact OwT.rd (hS.rd (A := OwT _ _ _) (by (repeat (first | exact At.here | apply At.there)))) | assumption)) (h := ?_)); clear hk a; rintro _ w ⟨rfl, hS1⟩ a hk; replace hS := hS.call0 hS1; clear hS1
          cases bn with
          | true =>
            rw [if_pos rfl]
            (repeat' (first | (show wpListIn _ _ _ _ _ (_ :: _) _ _; first | (refine wx1 ?_; clear hk a; intro a hk) | (refine wx2 ?_ ?_ <;> (intro hp; clear hk a; intro a hk)) | (refine wx3 ?_; clear hk hS a; intro w b hS a hk) | (refine wx4 ?_; clear hk hS a; intro w hS a hk) | (refine wx5 ?_; clear hk hS a; intro w v hS a hk) | fail) | refine wx0 ?_ | (refine s_end hk ?_; clear hk a; intro a hk) | fail))
            exact done1 hk (h := ⟨rfl, (hS.sub (.cons (by (repeat (first | exact At.here | apply At.there))) (by repeat (first | exact Sub.refl | apply Sub.under))))⟩)
          | false =>
            rw [if_neg (by decide)]
            (repeat' (first | (show wpListIn _ _ _ _ _ (_ :: _) _ _; first | (refine wx1 ?_; clear hk a; intro a hk) | (refine wx2 ?_ ?_ <;> (intro hp; clear hk a; intro a hk)) | (refine wx3 ?_; clear hk hS a; intro w b hS a hk) | (refine wx4 ?_; clear hk hS a; intro w hS a hk) | (refine wx5 ?_; clear hk hS a; intro w v hS a hk) | fail) | refine wx0 ?_ | (refine s_end hk ?_; clear hk a; intro a hk) | fail))
            refine sg hk (g_callO hk (hf := by kernel_rfl) (hc := htw _ (hS.rdT c1) (hS.rdT c2) (hS.rdT c3) (hS.rdT c4) (hS.rdFo hF)) (h := ?_)); clear hk a; rintro _ w ⟨rfl, hS1⟩ a hk; replace hS := hS.call0 hS1; clear hS1
            cases bt with
            | true =>
              rw [if_pos rfl]
              (repeat' (first | (show wpListIn _ _ _ _ _ (_ :: _) _ _; first | (refine wx1 ?_; clear hk a; intro a hk) | (refine wx2 ?_ ?_ <;> (intro hp; clear hk a; intro a hk)) | (refine wx3 ?_; clear hk hS a; intro w b hS a hk) | (refine wx4 ?_; clear hk hS a; intro w hS a hk) | (refine wx5 ?_; clear hk hS a; intro w v hS a hk) | fail) | refine wx0 ?_ | (refine s_end hk ?_; clear hk a; intro a hk) | fail))
              exact done1 hk (h := ⟨rfl, (hS.sub (.cons (by (repeat (first | exact At.here | apply At.there))) (by repeat (first | exact Sub.refl | apply Sub.under))))⟩)
            | false =>
              rw [if_neg (by decide)]
              have hv4 := hS.rdT c4
              (repeat' (first | (show wpListIn _ _ _ _ _ (_ :: _) _ _; first | (refine wx1 ?_; clear hk a; intro a hk) | (refine wx2 ?_ ?_ <;> (intro hp; clear hk a; intro a hk)) | (refine wx3 ?_; clear hk hS a; intro w b hS a hk) | (refine wx4 ?_; clear hk hS a; intro w hS a hk) | (refine wx5 ?_; clear hk hS a; intro w v hS a hk) | fail) | refine wx0 ?_ | (refine s_end hk ?_; clear hk a; intro a hk) | fail))
              replace hk := Kn.kp [0, 2, 42, 43, 44] hk
              refine wp_for H.length (fun i _ => [(44, .int .i64 (i : Int))]) (fun i x => pts bw [.int .i64 depth, .int .i64 x] 100 :: L) (fun i x => chkL (kids.take i) (deep + 1) depth (left - 1) = (0, x)) (left - 1) hk (by repeat (first | exact trivial | refine ⟨rfl, ?_⟩)) (hS.sub (.cons (by (repeat (first | exact At.here | apply At.there))) (by repeat (first | exact Sub.refl | apply Sub.under)))) (by rw [List.take_zero, chkL]) ?_
              clear hk hS a hv4
              rintro i x a w hi hk hS hC
              have hv4 := hS.rdT c4
              by_cases hil : i < H.length
              · obtain ⟨tk, htk⟩ : ∃ t, kids[i]? = some t := ⟨_, List.getElem?_eq_getElem (by omega)⟩
                obtain ⟨hd0, hx⟩ : ∃ x, H[i]? = some x := ⟨_, List.getElem?_eq_getElem hil⟩
                have hTr := hF.2 i tk hd0 htk hx
                have hfk := l5 tk (List.mem_of_getElem? htk)
                have hzk := z7 tk (List.mem_of_getElem? htk)
                have hlt : SizeOf.sizeOf tk < n := by have := kid_lt (k := k) (tag := tag) (key := key) (text := text) (cl := cl) (at_ := al) (st := sl) (o := (e, lv, m, d, p, q)) (List.mem_of_getElem? htk); omega
                have hbd := chkL_bnd (kids.take i) (deep + 1) depth (left - 1)
                rw [hC] at hbd
                simp only at hbd
                have hct : cntL (kids.take i) + cnt tk ≤ cntL kids := by
                  have h1 := cntL_app (kids.take (i + 1)) (kids.drop (i + 1))
                  rw [List.take_append_drop, take_snoc htk, cntL_app] at h1
                  simp only [cntL] at h1
                  omega
                have hsn := chkL_snoc (kids.take i) tk (deep + 1) depth (left - 1) (by rw [hC])
                rw [hC, ← take_snoc htk] at hsn
                simp only at hsn
                have hcp := cnt_pos tk
                obtain ⟨k0, tag0, key0, text0, ⟨x1, x2, x3⟩, ⟨y1, y2, y3⟩, ⟨zz1, zz2, zz3⟩, ⟨e0, lv0, m0, d0, p0, q0⟩, ⟨u1, u2, u3⟩⟩ := hd0
                (repeat' (first | (show wpListIn _ _ _ _ _ (_ :: _) _ _; first | (refine wx1 ?_; clear hk a; intro a hk) | (refine wx2 ?_ ?_ <;> (intro hp; clear hk a; intro a hk)) | (refine wx3 ?_; clear hk hS a; intro w b hS a hk) | (refine wx4 ?_; clear hk hS a; intro w hS a hk) | (refine wx5 ?_; clear hk hS a; intro w v hS a hk) | fail) | refine wx0 ?_ | (refine s_end hk ?_; clear hk a; intro a hk) | fail))
                refine sg hk (g_callO hk (hf := by kernel_rfl) (hc := ih tk (k0, tag0, key0, text0, ⟨x1, x2, x3⟩, ⟨y1, y2, y3⟩, ⟨zz1, zz2, zz3⟩, (e0, lv0, m0, d0, p0, q0), ⟨u1, u2, u3⟩) B _ _ (deep + 1) x hlt hfk hzk hTr (by omega) (by omega) (by omega) (by omega) (hS.sub (.cons (by (repeat (first | exact At.here | apply At.there))) .refl))) (h := ?_)); clear hk hS a; intro vr w hS a hk
                obtain ⟨rfl, hS⟩ := hS
                by_cases hne : (chkT tk (deep + 1) depth x).1 = 0
                · (repeat' (first | (show wpListIn _ _ _ _ _ (_ :: _) _ _; first | (refine wx1 ?_; clear hk a; intro a hk) | (refine wx2 ?_ ?_ <;> (intro hp; clear hk a; intro a hk)) | (refine wx3 ?_; clear hk hS a; intro w b hS a hk) | (refine wx4 ?_; clear hk hS a; intro w hS a hk) | (refine wx5 ?_; clear hk hS a; intro w v hS a hk) | fail) | refine wx0 ?_ | (refine s_end hk ?_; clear hk a; intro a hk) | fail))
                  refine ⟨hil, (chkT tk (deep + 1) depth x).2, hk.sd, (hS.sub (.cons (by (repeat (first | exact At.here | apply At.there))) (by repeat (first | exact Sub.refl | apply Sub.under)))), by rw [hsn]; exact Prod.ext hne rfl⟩
                · (repeat' (first | (show wpListIn _ _ _ _ _ (_ :: _) _ _; first | (refine wx1 ?_; clear hk a; intro a hk) | (refine wx2 ?_ ?_ <;> (intro hp; clear hk a; intro a hk)) | (refine wx3 ?_; clear hk hS a; intro w b hS a hk) | (refine wx4 ?_; clear hk hS a; intro w hS a hk) | (refine wx5 ?_; clear hk hS a; intro w v hS a hk) | fail) | refine wx0 ?_ | (refine s_end hk ?_; clear hk a; intro a hk) | fail))
                  have hfin : chkL kids (deep + 1) depth (left - 1) = chkT tk (deep + 1) depth x := by
                    have h1 := chkL_app (kids.take (i + 1)) (kids.drop (i + 1)) (deep + 1) depth (left - 1)
                    rw [List.take_append_drop, hsn, if_neg hne] at h1
                    exact h1
                  rw [hfin]
                  exact done1 hk (h := ⟨rfl, (hS.sub (.cons (by (repeat (first | exact At.here | apply At.there))) (by repeat (first | exact Sub.refl | apply Sub.under))))⟩)
              · have hii : i = kids.length := by omega
                subst hii
                rw [List.take_length] at hC
                (repeat' (first | (show wpListIn _ _ _ _ _ (_ :: _) _ _; first | (refine wx1 ?_; clear hk a; intro a hk) | (refine wx2 ?_ ?_ <;> (intro hp; clear hk a; intro a hk)) | (refine wx3 ?_; clear hk hS a; intro w b hS a hk) | (refine wx4 ?_; clear hk hS a; intro w hS a hk) | (refine wx5 ?_; clear hk hS a; intro w v hS a hk) | fail) | refine wx0 ?_ | (refine s_end hk ?_; clear hk a; intro a hk) | fail))
                rw [hC]
                exact done1 hk (h := ⟨rfl, (hS.sub (.cons (by (repeat (first | exact At.here | apply At.there))) (by repeat (first | exact Sub.refl | apply Sub.under))))⟩)

theorem clip_any (x lo hi : Int) (w0 : World) : Calls Tryz.prog 46 #[.int .i64 x, .int .i64 lo, .int .i64 hi] w0 (Ret fun v w => v = .int .i64 (max lo (min x hi)) ∧ St w0 [] w) := by
  refine enter Tryz.func46 rfl Tryz.ntmps46 rfl (fun a hk => ?_); have hS := St.refl w0
  (repeat' (first | (show wpListIn _ _ _ _ _ (_ :: _) _ _; first | (refine wx1 ?_; clear hk a; intro a hk) | (refine wx2 ?_ ?_ <;> (intro hp; clear hk a; intro a hk)) | (refine wx3 ?_; clear hk hS a; intro w b hS a hk) | (refine wx4 ?_; clear hk hS a; intro w hS a hk) | (refine wx5 ?_; clear hk hS a; intro w v hS a hk) | fail) | refine wx0 ?_ | (refine s_end hk ?_; clear hk a; intro a hk) | fail))
  exact done1 hk (h := ⟨rfl, hS.nil⟩)
def chk7 (t : Tree) (depth nodes : Int) : Int := (chkT t 1 (max 1 (min depth 20)) (max 1 (min nodes 4096))).1
theorem Check7_any (t : Tree) (h : NdH) (depth nodes : Int) (w0 : World) (hf : Fits t) (hz : Siz 1000000 t) (hc : cnt t ≤ 1000000) (hr : TrR w0 t h) :
    Calls Tryz.prog 21 #[ndV h, .int .i64 depth, .int .i64 nodes] w0 (Ret fun v w => v = .int .i64 (chk7 t depth nodes) ∧ St w0 [] w) := by
  have hr0 := hr
  obtain ⟨k, tag, key, text, cl, al, sl, e, lv, m, d, p, q, kids, a1, m1, a2, m2, a3, m3, a4, m4, H, rfl, rfl, -⟩ := hr.split
  show Calls Tryz.prog 21 #[.agg #[.int .i64 k, .string tag, .string key, .string text, .slice a1 cl.length m1, .slice a2 al.length m2, .slice a3 sl.length m3, .int .i64 e, .int .i64 lv, .int .i64 m, .int .i64 d, .bool p, .bool q, .slice a4 H.length m4], .int .i64 depth, .int .i64 nodes] w0 _
  refine enter Tryz.func21 rfl Tryz.ntmps21 rfl (fun a hk => ?_); have hS := St.refl w0
  (repeat' (first | (show wpListIn _ _ _ _ _ (_ :: _) _ _; first | (refine wx1 ?_; clear hk a; intro a hk) | (refine wx2 ?_ ?_ <;> (intro hp; clear hk a; intro a hk)) | (refine wx3 ?_; clear hk hS a; intro w b hS a hk) | (refine wx4 ?_; clear hk hS a; intro w hS a hk) | (refine wx5 ?_; clear hk hS a; intro w v hS a hk) | fail) | refine wx0 ?_ | (refine s_end hk ?_; clear hk a; intro a hk) | fail))
  refine sg hk (g_callO hk (hf := by kernel_rfl) (hc := clip_any depth 1 20 _) (h := ?_)); clear hk a; rintro _ w ⟨rfl, hS1⟩ a hk; replace hS := hS.call0 hS1; clear hS1
  (repeat' (first | (show wpListIn _ _ _ _ _ (_ :: _) _ _; first | (refine wx1 ?_; clear hk a; intro a hk) | (refine wx2 ?_ ?_ <;> (intro hp; clear hk a; intro a hk)) | (refine wx3 ?_; clear hk hS a; intro w b hS a hk) | (refine wx4 ?_; clear hk hS a; intro w hS a hk) | (refine wx5 ?_; clear hk hS a; intro w v hS a hk) | fail) | refine wx0 ?_ | (refine s_end hk ?_; clear hk a; intro a hk) | fail))
  refine sg hk (g_callO hk (hf := by kernel_rfl) (hc := clip_any nodes 1 4096 _) (h := ?_)); clear hk a; rintro _ w ⟨rfl, hS1⟩ a hk; replace hS := hS.call0 hS1; clear hS1
  (repeat' (first | (show wpListIn _ _ _ _ _ (_ :: _) _ _; first | (refine wx1 ?_; clear hk a; intro a hk) | (refine wx2 ?_ ?_ <;> (intro hp; clear hk a; intro a hk)) | (refine wx3 ?_; clear hk hS a; intro w b hS a hk) | (refine wx4 ?_; clear hk hS a; intro w hS a hk) | (refine wx5 ?_; clear hk hS a; intro w v hS a hk) | fail) | refine wx0 ?_ | (refine s_end hk ?_; clear hk a; intro a hk) | fail))
  refine sg hk (g_callO hk (hf := by kernel_rfl) (hc := check7_any b (max 1 (min depth 20)) (SizeOf.sizeOf (Tree.mk k tag key text cl al sl (e, lv, m, d, p, q) kids) + 1) _ (k, tag, key, text, ⟨a1, cl.length, m1⟩, ⟨a2, al.length, m2⟩, ⟨a3, sl.length, m3⟩, (e, lv, m, d, p, q), ⟨a4, H.length, m4⟩) w0 _ _ 1 (max 1 (min nodes 4096)) (by omega) hf hz hr0 (by omega) (by omega) (by omega) (by omega) hS) (h := ?_)); clear hk hS a; intro vr w hS a hk
  obtain ⟨rfl, hS⟩ := hS
  (repeat' (first | (show wpListIn _ _ _ _ _ (_ :: _) _ _; first | (refine wx1 ?_; clear hk a; intro a hk) | (refine wx2 ?_ ?_ <;> (intro hp; clear hk a; intro a hk)) | (refine wx3 ?_; clear hk hS a; intro w b hS a hk) | (refine wx4 ?_; clear hk hS a; intro w hS a hk) | (refine wx5 ?_; clear hk hS a; intro w v hS a hk) | fail) | refine wx0 ?_ | (refine s_end hk ?_; clear hk a; intro a hk) | fail))
  exact done1 hk (h := ⟨rfl, hS.nil⟩)
end Go.Proofs.YtipdgobplfkipaaGreatDoor
namespace Go.Proofs.YtipdgobplfkipaaGreatDoor
open Go.RowKit

noncomputable section
open Classical in
mutual
def samT : Tree → Tree → Bool
  | .mk k tag key text cl al sl o kids, .mk k' tag' key' text' cl' al' sl' o' kids' =>
    decide (k = k' ∧ tag = tag' ∧ key = key' ∧ text = text' ∧ o = o' ∧ cl = cl' ∧ snapF nmS al = snapF nmS al' ∧ snapF nmI sl = snapF nmI sl') && samL kids kids'
def samL : List Tree → List Tree → Bool
  | [], [] => true
  | t :: ts, u :: us => samT t u && samL ts us
  | [], _ :: _ => false
  | _ :: _, [] => false
end
end
theorem samL_iff : ∀ (ts us : List Tree), samL ts us = true ↔ ts.length = us.length ∧ ∀ (i : Nat) (t u : Tree), ts[i]? = some t → us[i]? = some u → samT t u = true
  | [], [] => by simp [samL]
  | [], _ :: _ => by simp [samL]
  | _ :: _, [] => by simp [samL]
  | t :: ts, u :: us => by
    rw [samL, Bool.and_eq_true, samL_iff ts us]
    constructor
    · rintro ⟨h1, h2, h3⟩
      refine ⟨by simp [h2], fun i a b ha hb => ?_⟩
      cases i with
      | zero => simp at ha hb; subst ha hb; exact h1
      | succ i => simp at ha hb; exact h3 i a b ha hb
    · rintro ⟨h1, h2⟩
      exact ⟨h2 0 t u rfl rfl, by simpa using h1, fun i a b ha hb => h2 (i + 1) a b (by simpa using ha) (by simpa using hb)⟩
theorem sam_iff {k k' : Int} {tag key text tag' key' text' : ByteArray} {cl cl' : List ByteArray} {al al' : List (ByteArray × ByteArray)} {sl sl' : List (ByteArray × Int)} {o o' : Opt} {kids kids' : List Tree} :
    samT (.mk k tag key text cl al sl o kids) (.mk k' tag' key' text' cl' al' sl' o' kids') = true ↔
      (k = k' ∧ tag = tag' ∧ key = key' ∧ text = text' ∧ o = o' ∧ cl = cl' ∧ snapF nmS al = snapF nmS al' ∧ snapF nmI sl = snapF nmI sl') ∧ samL kids kids' = true := by
  rw [samT, Bool.and_eq_true, decide_eq_true_iff]
theorem sam_false {t u : Tree} (h : ¬ samT t u = true) : samT t u = false := by simpa using h
end Go.Proofs.YtipdgobplfkipaaGreatDoor
namespace Go.Proofs.YtipdgobplfkipaaGreatDoor
open Go.RowKit
set_option maxRecDepth 100000
attribute [local irreducible] Go.Code.wpIn Go.wpListIn Go.Calls Gives Go.Exit.then Go.Exit.inBlock Done ObxE

abbrev nodeV (k : Int) (tag key text : ByteArray) (a1 : Option Addr) (n1 m1 : Nat) (a2 : Option Addr) (n2 m2 : Nat) (a3 : Option Addr) (n3 m3 : Nat) (e lv m d : Int) (p q : Bool) (a4 : Option Addr) (n4 m4 : Nat) : Value :=
  .agg #[.int .i64 k, .string tag, .string key, .string text, .slice a1 n1 m1, .slice a2 n2 m2, .slice a3 n3 m3, .int .i64 e, .int .i64 lv, .int .i64 m, .int .i64 d, .bool p, .bool q, .slice a4 n4 m4]

end Go.Proofs.YtipdgobplfkipaaGreatDoor
namespace Go.Proofs.YtipdgobplfkipaaGreatDoor
open Go.RowKit
set_option maxRecDepth 100000
attribute [local irreducible] Go.Code.wpIn Go.wpListIn Go.Calls Gives Go.Exit.then Go.Exit.inBlock Done ObxE

set_option maxHeartbeats 1000000 in
theorem equalI_any (xs ys : List PrI) (vx vy : Value) (w0 : World) (hx : SlT xs vx w0) (hy : SlT ys vy w0) (hl : xs.length ≤ 30000) :
    Calls Tryz.prog 55 #[vx, vy] w0 (Ret fun v w => v = .bool (decide (xs = ys)) ∧ St w0 [] w) := by
  refine enter Tryz.func55 rfl Tryz.ntmps55 rfl (fun a hk => ?_); have hS := St.refl w0
  (repeat' (first | (show wpListIn _ _ _ _ _ (_ :: _) _ _; first | (refine wx1 ?_; clear hk a; intro a hk) | (refine wx2 ?_ ?_ <;> (intro hp; clear hk a; intro a hk)) | (refine wx3 ?_; clear hk hS a; intro w b hS a hk) | (refine wx4 ?_; clear hk hS a; intro w hS a hk) | (refine wx5 ?_; clear hk hS a; intro w v hS a hk) | fail) | refine wx0 ?_ | (refine s_end hk ?_; clear hk a; intro a hk) | fail))
  · replace hk := Kn.kp [0, 1, 12, 13] hk
    refine wp_for xs.length (fun i _ => [(13, .int .i64 (i : Int))]) (fun _ _ => []) (fun i _ => ∀ j, j < i → xs[j]? = ys[j]?) () hk (by repeat (first | exact trivial | refine ⟨rfl, ?_⟩)) hS (fun j hj => by omega) ?_
    clear hk hS a
    rintro i - a w hi hk hS hF
    by_cases hil : i < xs.length
    · (repeat' (first | (show wpListIn _ _ _ _ _ (_ :: _) _ _; first | (refine wx1 ?_; clear hk a; intro a hk) | (refine wx2 ?_ ?_ <;> (intro hp; clear hk a; intro a hk)) | (refine wx3 ?_; clear hk hS a; intro w b hS a hk) | (refine wx4 ?_; clear hk hS a; intro w hS a hk) | (refine wx5 ?_; clear hk hS a; intro w v hS a hk) | fail) | refine wx0 ?_ | (refine s_end hk ?_; clear hk a; intro a hk) | fail))
      refine wp_drawn 8 mixed (by kernel_rfl) hk hS ?_; clear hk hS a
      (repeat' (first | (show ObxE _ _ _ _ _ _ _ _ _ (_ :: _) _ _ _; first | refine ox1 ?_ | (refine ox2 ?_ ?_ <;> intro hp) | fail) | fail))
      refine obe_nil ⟨rfl, ?_⟩; intro us a w hk hS
      (repeat' (first | (show wpListIn _ _ _ _ _ (_ :: _) _ _; first | (refine wx1 ?_; clear hk a; intro a hk) | (refine wx2 ?_ ?_ <;> (intro hp; clear hk a; intro a hk)) | (refine wx3 ?_; clear hk hS a; intro w b hS a hk) | (refine wx4 ?_; clear hk hS a; intro w hS a hk) | (refine wx5 ?_; clear hk hS a; intro w v hS a hk) | fail) | refine wx0 ?_ | (refine s_end hk ?_; clear hk a; intro a hk) | fail))
      · have he := eqC_enc (x := xs[i]'hil) (y := ys[i]'(by omega)) (by assumption)
        rw [if_pos rfl] at he
        refine ⟨hil, (), hk.sd, hS, fun j hj => ?_⟩
        by_cases e : j = i
        · subst e
          rw [List.getElem?_eq_getElem hil, List.getElem?_eq_getElem (by omega), he]
        · exact hF j (by omega)
      · have he := eqC_enc (x := xs[i]'hil) (y := ys[i]'(by omega)) (by assumption)
        rw [if_neg (by decide)] at he
        refine done1 hk (h := ⟨?_, hS.nil⟩)
        rw [decide_eq_false]
        intro e
        subst e
        exact he rfl
    · (repeat' (first | (show wpListIn _ _ _ _ _ (_ :: _) _ _; first | (refine wx1 ?_; clear hk a; intro a hk) | (refine wx2 ?_ ?_ <;> (intro hp; clear hk a; intro a hk)) | (refine wx3 ?_; clear hk hS a; intro w b hS a hk) | (refine wx4 ?_; clear hk hS a; intro w hS a hk) | (refine wx5 ?_; clear hk hS a; intro w v hS a hk) | fail) | refine wx0 ?_ | (refine s_end hk ?_; clear hk a; intro a hk) | fail))
      refine done1 hk (h := ⟨?_, hS.nil⟩)
      rw [decide_eq_true]
      apply List.ext_getElem?
      intro j
      by_cases hj : j < i
      · exact hF j hj
      · rw [List.getElem?_eq_none (by omega), List.getElem?_eq_none (by omega)]
  · refine done1 hk (h := ⟨?_, hS.nil⟩)
    rw [decide_eq_false]
    intro e
    subst e
    have : ¬ ((xs.length : Nat) : Int) = ((xs.length : Nat) : Int) := by assumption
    exact this rfl

theorem sameI_any (l m : List PrI) (v u : Value) (w0 : World) (hv : SlT l v w0) (hu : SlT m u w0) (hl : l.length ≤ 30000) (hm : m.length ≤ 30000) :
    Calls Tryz.prog 32 #[v, u] w0 (Ret fun v w => v = .bool (decide (snapF nmI l = snapF nmI m)) ∧ St w0 [] w) := by
  have hsl := snap_len nmI l
  refine enter Tryz.func32 rfl Tryz.ntmps32 rfl (fun a hk => ?_); have hS := St.refl w0
  (repeat' (first | (show wpListIn _ _ _ _ _ (_ :: _) _ _; first | (refine wx1 ?_; clear hk a; intro a hk) | (refine wx2 ?_ ?_ <;> (intro hp; clear hk a; intro a hk)) | (refine wx3 ?_; clear hk hS a; intro w b hS a hk) | (refine wx4 ?_; clear hk hS a; intro w hS a hk) | (refine wx5 ?_; clear hk hS a; intro w v hS a hk) | fail) | refine wx0 ?_ | (refine s_end hk ?_; clear hk a; intro a hk) | fail))
  refine sg hk (g_callO hk (hf := by kernel_rfl) (hc := ofI_any l v _ (hS.rdT hv) hl) (h := ?_)); clear hk a; rintro vs w hS1 a hk; replace hS := hS.call hS1; clear hS1
  (repeat' (first | (show wpListIn _ _ _ _ _ (_ :: _) _ _; first | (refine wx1 ?_; clear hk a; intro a hk) | (refine wx2 ?_ ?_ <;> (intro hp; clear hk a; intro a hk)) | (refine wx3 ?_; clear hk hS a; intro w b hS a hk) | (refine wx4 ?_; clear hk hS a; intro w hS a hk) | (refine wx5 ?_; clear hk hS a; intro w v hS a hk) | fail) | refine wx0 ?_ | (refine s_end hk ?_; clear hk a; intro a hk) | fail))
  refine sg hk (g_callO hk (hf := by kernel_rfl) (hc := ofI_any m u _ (hS.rdT hu) hm) (h := ?_)); clear hk a; rintro vt w hS1 a hk; replace hS := hS.call hS1; clear hS1
  (repeat' (first | (show wpListIn _ _ _ _ _ (_ :: _) _ _; first | (refine wx1 ?_; clear hk a; intro a hk) | (refine wx2 ?_ ?_ <;> (intro hp; clear hk a; intro a hk)) | (refine wx3 ?_; clear hk hS a; intro w b hS a hk) | (refine wx4 ?_; clear hk hS a; intro w hS a hk) | (refine wx5 ?_; clear hk hS a; intro w v hS a hk) | fail) | refine wx0 ?_ | (refine s_end hk ?_; clear hk a; intro a hk) | fail))
  refine sg hk (g_callO hk (hf := by kernel_rfl) (hc := equalI_any _ _ vs vt _ (by first | exact St.rdT hS (by assumption) | exact OwT.rd (hS.rd (A := OwT _ _ _) (by (repeat (first | exact At.here | apply At.there)))) | assumption) (by first | exact St.rdT hS (by assumption) | exact OwT.rd (hS.rd (A := OwT _ _ _) (by (repeat (first | exact At.here | apply At.there)))) | assumption) (by omega)) (h := ?_)); clear hk a; rintro _ w ⟨rfl, hS1⟩ a hk; replace hS := hS.call0 hS1; clear hS1
  (repeat' (first | (show wpListIn _ _ _ _ _ (_ :: _) _ _; first | (refine wx1 ?_; clear hk a; intro a hk) | (refine wx2 ?_ ?_ <;> (intro hp; clear hk a; intro a hk)) | (refine wx3 ?_; clear hk hS a; intro w b hS a hk) | (refine wx4 ?_; clear hk hS a; intro w hS a hk) | (refine wx5 ?_; clear hk hS a; intro w v hS a hk) | fail) | refine wx0 ?_ | (refine s_end hk ?_; clear hk a; intro a hk) | fail))
  exact done1 hk (h := ⟨rfl, hS.nil⟩)

set_option maxHeartbeats 1000000 in
theorem equalS_any (xs ys : List PrS) (vx vy : Value) (w0 : World) (hx : SlT xs vx w0) (hy : SlT ys vy w0) (hl : xs.length ≤ 30000) :
    Calls Tryz.prog 54 #[vx, vy] w0 (Ret fun v w => v = .bool (decide (xs = ys)) ∧ St w0 [] w) := by
  refine enter Tryz.func54 rfl Tryz.ntmps54 rfl (fun a hk => ?_); have hS := St.refl w0
  (repeat' (first | (show wpListIn _ _ _ _ _ (_ :: _) _ _; first | (refine wx1 ?_; clear hk a; intro a hk) | (refine wx2 ?_ ?_ <;> (intro hp; clear hk a; intro a hk)) | (refine wx3 ?_; clear hk hS a; intro w b hS a hk) | (refine wx4 ?_; clear hk hS a; intro w hS a hk) | (refine wx5 ?_; clear hk hS a; intro w v hS a hk) | fail) | refine wx0 ?_ | (refine s_end hk ?_; clear hk a; intro a hk) | fail))
  · replace hk := Kn.kp [0, 1, 12, 13] hk
    refine wp_for xs.length (fun i _ => [(13, .int .i64 (i : Int))]) (fun _ _ => []) (fun i _ => ∀ j, j < i → xs[j]? = ys[j]?) () hk (by repeat (first | exact trivial | refine ⟨rfl, ?_⟩)) hS (fun j hj => by omega) ?_
    clear hk hS a
    rintro i - a w hi hk hS hF
    by_cases hil : i < xs.length
    · (repeat' (first | (show wpListIn _ _ _ _ _ (_ :: _) _ _; first | (refine wx1 ?_; clear hk a; intro a hk) | (refine wx2 ?_ ?_ <;> (intro hp; clear hk a; intro a hk)) | (refine wx3 ?_; clear hk hS a; intro w b hS a hk) | (refine wx4 ?_; clear hk hS a; intro w hS a hk) | (refine wx5 ?_; clear hk hS a; intro w v hS a hk) | fail) | refine wx0 ?_ | (refine s_end hk ?_; clear hk a; intro a hk) | fail))
      refine wp_drawn 8 mixed (by kernel_rfl) hk hS ?_; clear hk hS a
      (repeat' (first | (show ObxE _ _ _ _ _ _ _ _ _ (_ :: _) _ _ _; first | refine ox1 ?_ | (refine ox2 ?_ ?_ <;> intro hp) | fail) | fail))
      refine obe_nil ⟨rfl, ?_⟩; intro us a w hk hS
      (repeat' (first | (show wpListIn _ _ _ _ _ (_ :: _) _ _; first | (refine wx1 ?_; clear hk a; intro a hk) | (refine wx2 ?_ ?_ <;> (intro hp; clear hk a; intro a hk)) | (refine wx3 ?_; clear hk hS a; intro w b hS a hk) | (refine wx4 ?_; clear hk hS a; intro w hS a hk) | (refine wx5 ?_; clear hk hS a; intro w v hS a hk) | fail) | refine wx0 ?_ | (refine s_end hk ?_; clear hk a; intro a hk) | fail))
      · have he := eqC_enc (x := xs[i]'hil) (y := ys[i]'(by omega)) (by assumption)
        rw [if_pos rfl] at he
        refine ⟨hil, (), hk.sd, hS, fun j hj => ?_⟩
        by_cases e : j = i
        · subst e
          rw [List.getElem?_eq_getElem hil, List.getElem?_eq_getElem (by omega), he]
        · exact hF j (by omega)
      · have he := eqC_enc (x := xs[i]'hil) (y := ys[i]'(by omega)) (by assumption)
        rw [if_neg (by decide)] at he
        refine done1 hk (h := ⟨?_, hS.nil⟩)
        rw [decide_eq_false]
        intro e
        subst e
        exact he rfl
    · (repeat' (first | (show wpListIn _ _ _ _ _ (_ :: _) _ _; first | (refine wx1 ?_; clear hk a; intro a hk) | (refine wx2 ?_ ?_ <;> (intro hp; clear hk a; intro a hk)) | (refine wx3 ?_; clear hk hS a; intro w b hS a hk) | (refine wx4 ?_; clear hk hS a; intro w hS a hk) | (refine wx5 ?_; clear hk hS a; intro w v hS a hk) | fail) | refine wx0 ?_ | (refine s_end hk ?_; clear hk a; intro a hk) | fail))
      refine done1 hk (h := ⟨?_, hS.nil⟩)
      rw [decide_eq_true]
      apply List.ext_getElem?
      intro j
      by_cases hj : j < i
      · exact hF j hj
      · rw [List.getElem?_eq_none (by omega), List.getElem?_eq_none (by omega)]
  · refine done1 hk (h := ⟨?_, hS.nil⟩)
    rw [decide_eq_false]
    intro e
    subst e
    have : ¬ ((xs.length : Nat) : Int) = ((xs.length : Nat) : Int) := by assumption
    exact this rfl

theorem sameS_any (l m : List PrS) (v u : Value) (w0 : World) (hv : SlT l v w0) (hu : SlT m u w0) (hl : l.length ≤ 30000) (hm : m.length ≤ 30000) :
    Calls Tryz.prog 31 #[v, u] w0 (Ret fun v w => v = .bool (decide (snapF nmS l = snapF nmS m)) ∧ St w0 [] w) := by
  have hsl := snap_len nmS l
  refine enter Tryz.func31 rfl Tryz.ntmps31 rfl (fun a hk => ?_); have hS := St.refl w0
  (repeat' (first | (show wpListIn _ _ _ _ _ (_ :: _) _ _; first | (refine wx1 ?_; clear hk a; intro a hk) | (refine wx2 ?_ ?_ <;> (intro hp; clear hk a; intro a hk)) | (refine wx3 ?_; clear hk hS a; intro w b hS a hk) | (refine wx4 ?_; clear hk hS a; intro w hS a hk) | (refine wx5 ?_; clear hk hS a; intro w v hS a hk) | fail) | refine wx0 ?_ | (refine s_end hk ?_; clear hk a; intro a hk) | fail))
  refine sg hk (g_callO hk (hf := by kernel_rfl) (hc := ofS_any l v _ (hS.rdT hv) hl) (h := ?_)); clear hk a; rintro vs w hS1 a hk; replace hS := hS.call hS1; clear hS1
  (repeat' (first | (show wpListIn _ _ _ _ _ (_ :: _) _ _; first | (refine wx1 ?_; clear hk a; intro a hk) | (refine wx2 ?_ ?_ <;> (intro hp; clear hk a; intro a hk)) | (refine wx3 ?_; clear hk hS a; intro w b hS a hk) | (refine wx4 ?_; clear hk hS a; intro w hS a hk) | (refine wx5 ?_; clear hk hS a; intro w v hS a hk) | fail) | refine wx0 ?_ | (refine s_end hk ?_; clear hk a; intro a hk) | fail))
  refine sg hk (g_callO hk (hf := by kernel_rfl) (hc := ofS_any m u _ (hS.rdT hu) hm) (h := ?_)); clear hk a; rintro vt w hS1 a hk; replace hS := hS.call hS1; clear hS1
  (repeat' (first | (show wpListIn _ _ _ _ _ (_ :: _) _ _; first | (refine wx1 ?_; clear hk a; intro a hk) | (refine wx2 ?_ ?_ <;> (intro hp; clear hk a; intro a hk)) | (refine wx3 ?_; clear hk hS a; intro w b hS a hk) | (refine wx4 ?_; clear hk hS a; intro w hS a hk) | (refine wx5 ?_; clear hk hS a; intro w v hS a hk) | fail) | refine wx0 ?_ | (refine s_end hk ?_; clear hk a; intro a hk) | fail))
  refine sg hk (g_callO hk (hf := by kernel_rfl) (hc := equalS_any _ _ vs vt _ (by first | exact St.rdT hS (by assumption) | exact OwT.rd (hS.rd (A := OwT _ _ _) (by (repeat (first | exact At.here | apply At.there)))) | assumption) (by first | exact St.rdT hS (by assumption) | exact OwT.rd (hS.rd (A := OwT _ _ _) (by (repeat (first | exact At.here | apply At.there)))) | assumption) (by omega)) (h := ?_)); clear hk a; rintro _ w ⟨rfl, hS1⟩ a hk; replace hS := hS.call0 hS1; clear hS1
  (repeat' (first | (show wpListIn _ _ _ _ _ (_ :: _) _ _; first | (refine wx1 ?_; clear hk a; intro a hk) | (refine wx2 ?_ ?_ <;> (intro hp; clear hk a; intro a hk)) | (refine wx3 ?_; clear hk hS a; intro w b hS a hk) | (refine wx4 ?_; clear hk hS a; intro w hS a hk) | (refine wx5 ?_; clear hk hS a; intro w v hS a hk) | fail) | refine wx0 ?_ | (refine s_end hk ?_; clear hk a; intro a hk) | fail))
  exact done1 hk (h := ⟨rfl, hS.nil⟩)

set_option maxHeartbeats 1000000 in
theorem equalC_any (xs ys : List ByteArray) (vx vy : Value) (w0 : World) (hx : SlT xs vx w0) (hy : SlT ys vy w0) (hl : xs.length ≤ 30000) :
    Calls Tryz.prog 53 #[vx, vy] w0 (Ret fun v w => v = .bool (decide (xs = ys)) ∧ St w0 [] w) := by
  refine enter Tryz.func53 rfl Tryz.ntmps53 rfl (fun a hk => ?_); have hS := St.refl w0
  (repeat' (first | (show wpListIn _ _ _ _ _ (_ :: _) _ _; first | (refine wx1 ?_; clear hk a; intro a hk) | (refine wx2 ?_ ?_ <;> (intro hp; clear hk a; intro a hk)) | (refine wx3 ?_; clear hk hS a; intro w b hS a hk) | (refine wx4 ?_; clear hk hS a; intro w hS a hk) | (refine wx5 ?_; clear hk hS a; intro w v hS a hk) | fail) | refine wx0 ?_ | (refine s_end hk ?_; clear hk a; intro a hk) | fail))
  · replace hk := Kn.kp [0, 1, 12, 13] hk
    refine wp_for xs.length (fun i _ => [(13, .int .i64 (i : Int))]) (fun _ _ => []) (fun i _ => ∀ j, j < i → xs[j]? = ys[j]?) () hk (by repeat (first | exact trivial | refine ⟨rfl, ?_⟩)) hS (fun j hj => by omega) ?_
    clear hk hS a
    rintro i - a w hi hk hS hF
    by_cases hil : i < xs.length
    · (repeat' (first | (show wpListIn _ _ _ _ _ (_ :: _) _ _; first | (refine wx1 ?_; clear hk a; intro a hk) | (refine wx2 ?_ ?_ <;> (intro hp; clear hk a; intro a hk)) | (refine wx3 ?_; clear hk hS a; intro w b hS a hk) | (refine wx4 ?_; clear hk hS a; intro w hS a hk) | (refine wx5 ?_; clear hk hS a; intro w v hS a hk) | fail) | refine wx0 ?_ | (refine s_end hk ?_; clear hk a; intro a hk) | fail))
      refine wp_drawn 8 mixed (by kernel_rfl) hk hS ?_; clear hk hS a
      (repeat' (first | (show ObxE _ _ _ _ _ _ _ _ _ (_ :: _) _ _ _; first | refine ox1 ?_ | (refine ox2 ?_ ?_ <;> intro hp) | fail) | fail))
      refine obe_nil ⟨rfl, ?_⟩; intro us a w hk hS
      (repeat' (first | (show wpListIn _ _ _ _ _ (_ :: _) _ _; first | (refine wx1 ?_; clear hk a; intro a hk) | (refine wx2 ?_ ?_ <;> (intro hp; clear hk a; intro a hk)) | (refine wx3 ?_; clear hk hS a; intro w b hS a hk) | (refine wx4 ?_; clear hk hS a; intro w hS a hk) | (refine wx5 ?_; clear hk hS a; intro w v hS a hk) | fail) | refine wx0 ?_ | (refine s_end hk ?_; clear hk a; intro a hk) | fail))
      · have he : xs[i]'hil = ys[i]'(by omega) := by assumption
        refine ⟨hil, (), hk.sd, hS, fun j hj => ?_⟩
        by_cases e : j = i
        · subst e
          rw [List.getElem?_eq_getElem hil, List.getElem?_eq_getElem (by omega), he]
        · exact hF j (by omega)
      · have he : ¬ xs[i]'hil = ys[i]'(by omega) := by assumption
        refine done1 hk (h := ⟨?_, hS.nil⟩)
        rw [decide_eq_false]
        intro e
        subst e
        exact he rfl
    · (repeat' (first | (show wpListIn _ _ _ _ _ (_ :: _) _ _; first | (refine wx1 ?_; clear hk a; intro a hk) | (refine wx2 ?_ ?_ <;> (intro hp; clear hk a; intro a hk)) | (refine wx3 ?_; clear hk hS a; intro w b hS a hk) | (refine wx4 ?_; clear hk hS a; intro w hS a hk) | (refine wx5 ?_; clear hk hS a; intro w v hS a hk) | fail) | refine wx0 ?_ | (refine s_end hk ?_; clear hk a; intro a hk) | fail))
      refine done1 hk (h := ⟨?_, hS.nil⟩)
      rw [decide_eq_true]
      apply List.ext_getElem?
      intro j
      by_cases hj : j < i
      · exact hF j hj
      · rw [List.getElem?_eq_none (by omega), List.getElem?_eq_none (by omega)]
  · refine done1 hk (h := ⟨?_, hS.nil⟩)
    rw [decide_eq_false]
    intro e
    subst e
    have : ¬ ((xs.length : Nat) : Int) = ((xs.length : Nat) : Int) := by assumption
    exact this rfl


theorem cSame_any (xs ys : List ByteArray) (vx vy : Value) (w0 : World) (hx : SlT xs vx w0) (hy : SlT ys vy w0) (hl : xs.length ≤ 30000) :
    Calls Tryz.prog 30 #[vx, vy] w0 (Ret fun v w => v = .bool (decide (xs = ys)) ∧ St w0 [] w) := by
  refine enter Tryz.func30 rfl Tryz.ntmps30 rfl (fun a hk => ?_); have hS := St.refl w0
  (repeat' (first | (show wpListIn _ _ _ _ _ (_ :: _) _ _; first | (refine wx1 ?_; clear hk a; intro a hk) | (refine wx2 ?_ ?_ <;> (intro hp; clear hk a; intro a hk)) | (refine wx3 ?_; clear hk hS a; intro w b hS a hk) | (refine wx4 ?_; clear hk hS a; intro w hS a hk) | (refine wx5 ?_; clear hk hS a; intro w v hS a hk) | fail) | refine wx0 ?_ | (refine s_end hk ?_; clear hk a; intro a hk) | fail))
  refine sg hk (g_callO hk (hf := by kernel_rfl) (hc := equalC_any xs ys vx vy _ (hS.rdT hx) (hS.rdT hy) hl) (h := ?_)); clear hk a; rintro _ w ⟨rfl, hS1⟩ a hk; replace hS := hS.call0 hS1; clear hS1
  (repeat' (first | (show wpListIn _ _ _ _ _ (_ :: _) _ _; first | (refine wx1 ?_; clear hk a; intro a hk) | (refine wx2 ?_ ?_ <;> (intro hp; clear hk a; intro a hk)) | (refine wx3 ?_; clear hk hS a; intro w b hS a hk) | (refine wx4 ?_; clear hk hS a; intro w hS a hk) | (refine wx5 ?_; clear hk hS a; intro w v hS a hk) | fail) | refine wx0 ?_ | (refine s_end hk ?_; clear hk a; intro a hk) | fail))
  exact done1 hk (h := ⟨rfl, hS.nil⟩)

set_option maxHeartbeats 4000000 in
theorem eqFunc_any (f : FuncId) (hf : callable Tryz.prog f = true) (ts us : List Tree) (H G : List NdH) (v u : Value) (w0 : World) (hv : SlT H v w0) (hu : SlT G u w0) (hF : FoR w0 ts H) (hG : FoR w0 us G) (hlen : ts.length ≤ 30000)
    (hc : ∀ (i : Nat) (t t' : Tree) (hd gd : NdH) (w : World), ts[i]? = some t → us[i]? = some t' → TrR w t hd → TrR w t' gd → Calls Tryz.prog f #[ndV hd, ndV gd] w (Ret fun r w' => r = .bool (samT t t') ∧ St w [] w')) :
    Calls Tryz.prog 33 #[v, u, .func (.func f) #[] #[]] w0 (Ret fun r w => r = .bool (samL ts us) ∧ St w0 [] w) := by
  have hHk : H.length = ts.length := hF.1
  have hGk : G.length = us.length := hG.1
  have hiff := samL_iff ts us
  refine enter Tryz.func33 rfl Tryz.ntmps33 rfl (fun a hk => ?_); have hS := St.refl w0
  by_cases hln : H.length = G.length
  · (repeat' (first | (show wpListIn _ _ _ _ _ (_ :: _) _ _; first | (refine wx1 ?_; clear hk a; intro a hk) | (refine wx2 ?_ ?_ <;> (intro hp; clear hk a; intro a hk)) | (refine wx3 ?_; clear hk hS a; intro w b hS a hk) | (refine wx4 ?_; clear hk hS a; intro w hS a hk) | (refine wx5 ?_; clear hk hS a; intro w v hS a hk) | fail) | refine wx0 ?_ | (refine s_end hk ?_; clear hk a; intro a hk) | fail))
    replace hk := Kn.kp [1, 2, 15, 16, 17] hk
    refine wp_for H.length (fun i _ => [(17, .int .i64 (i : Int))]) (fun _ _ => []) (fun i _ => ∀ (j : Nat) (t u : Tree), j < i → ts[j]? = some t → us[j]? = some u → samT t u = true) () hk (by repeat (first | exact trivial | refine ⟨rfl, ?_⟩)) hS.sb (fun j t u hj => by omega) ?_
    clear hk hS a
    rintro i - a w hi hk hS hEq
    have hv1 := hS.rdT hv
    have hu1 := hS.rdT hu
    by_cases hil : i < H.length
    · obtain ⟨tk, htk⟩ : ∃ t, ts[i]? = some t := ⟨_, List.getElem?_eq_getElem (by omega)⟩
      obtain ⟨uk, huk⟩ : ∃ t, us[i]? = some t := ⟨_, List.getElem?_eq_getElem (by omega)⟩
      obtain ⟨hd0, hx⟩ : ∃ x, H[i]? = some x := ⟨_, List.getElem?_eq_getElem hil⟩
      obtain ⟨gd0, hy⟩ : ∃ x, G[i]? = some x := ⟨_, List.getElem?_eq_getElem (by omega)⟩
      have hTr := hF.2 i tk hd0 htk hx
      have hTu := hG.2 i uk gd0 huk hy
      obtain ⟨k0, tag0, key0, text0, ⟨x1, x2, x3⟩, ⟨y1, y2, y3⟩, ⟨z1, z2, z3⟩, ⟨e0, lv0, m0, d0, p0, q0⟩, ⟨u1, u2, u3⟩⟩ := hd0
      obtain ⟨k9, tag9, key9, text9, ⟨x19, x29, x39⟩, ⟨y19, y29, y39⟩, ⟨z19, z29, z39⟩, ⟨e9, lv9, m9, d9, p9, q9⟩, ⟨u19, u29, u39⟩⟩ := gd0
      have hcall := fun w h1 h2 => hc i tk uk (k0, tag0, key0, text0, ⟨x1, x2, x3⟩, ⟨y1, y2, y3⟩, ⟨z1, z2, z3⟩, (e0, lv0, m0, d0, p0, q0), ⟨u1, u2, u3⟩) (k9, tag9, key9, text9, ⟨x19, x29, x39⟩, ⟨y19, y29, y39⟩, ⟨z19, z29, z39⟩, (e9, lv9, m9, d9, p9, q9), ⟨u19, u29, u39⟩) w htk huk h1 h2
      (repeat' (first | (show wpListIn _ _ _ _ _ (_ :: _) _ _; first | (refine wx1 ?_; clear hk a; intro a hk) | (refine wx2 ?_ ?_ <;> (intro hp; clear hk a; intro a hk)) | (refine wx3 ?_; clear hk hS a; intro w b hS a hk) | (refine wx4 ?_; clear hk hS a; intro w hS a hk) | (refine wx5 ?_; clear hk hS a; intro w v hS a hk) | fail) | refine wx0 ?_ | (refine s_end hk ?_; clear hk a; intro a hk) | fail))
      refine sg hk (g_callvO (first := []) (cap := []) hk (hf := hf) (hc := hcall _ (hS.rdTr hTr) (hS.rdTr hTu)) (h := ?_)); clear hk a; rintro _ w2 ⟨rfl, hS1⟩ a hk; replace hS := hS.call0 hS1; clear hS1
      cases hs : samT tk uk with
      | true =>
        rw [hs] at hk
        (repeat' (first | (show wpListIn _ _ _ _ _ (_ :: _) _ _; first | (refine wx1 ?_; clear hk a; intro a hk) | (refine wx2 ?_ ?_ <;> (intro hp; clear hk a; intro a hk)) | (refine wx3 ?_; clear hk hS a; intro w b hS a hk) | (refine wx4 ?_; clear hk hS a; intro w hS a hk) | (refine wx5 ?_; clear hk hS a; intro w v hS a hk) | fail) | refine wx0 ?_ | (refine s_end hk ?_; clear hk a; intro a hk) | fail))
        refine ⟨hil, (), hk.sd, hS.sb, fun j t u hj ht hu => ?_⟩
        by_cases e : j = i
        · subst e
          rw [htk] at ht
          rw [huk] at hu
          cases ht
          cases hu
          exact hs
        · exact hEq j t u (by omega) ht hu
      | false =>
        rw [hs] at hk
        (repeat' (first | (show wpListIn _ _ _ _ _ (_ :: _) _ _; first | (refine wx1 ?_; clear hk a; intro a hk) | (refine wx2 ?_ ?_ <;> (intro hp; clear hk a; intro a hk)) | (refine wx3 ?_; clear hk hS a; intro w b hS a hk) | (refine wx4 ?_; clear hk hS a; intro w hS a hk) | (refine wx5 ?_; clear hk hS a; intro w v hS a hk) | fail) | refine wx0 ?_ | (refine s_end hk ?_; clear hk a; intro a hk) | fail))
        have : samL ts us = false := by
          cases h : samL ts us with
          | false => rfl
          | true => have := (hiff.1 h).2 i tk uk htk huk; rw [hs] at this; cases this
        exact done1 hk (h := ⟨by rw [this], hS.nil⟩)
    · have : i = H.length := by omega
      subst this
      (repeat' (first | (show wpListIn _ _ _ _ _ (_ :: _) _ _; first | (refine wx1 ?_; clear hk a; intro a hk) | (refine wx2 ?_ ?_ <;> (intro hp; clear hk a; intro a hk)) | (refine wx3 ?_; clear hk hS a; intro w b hS a hk) | (refine wx4 ?_; clear hk hS a; intro w hS a hk) | (refine wx5 ?_; clear hk hS a; intro w v hS a hk) | fail) | refine wx0 ?_ | (refine s_end hk ?_; clear hk a; intro a hk) | fail))
      exact done1 hk (h := ⟨by rw [hiff.2 ⟨by omega, fun j t u ht hu => hEq j t u (by have := lt_of_get ht; omega) ht hu⟩], hS.nil⟩)
  · (repeat' (first | (show wpListIn _ _ _ _ _ (_ :: _) _ _; first | (refine wx1 ?_; clear hk a; intro a hk) | (refine wx2 ?_ ?_ <;> (intro hp; clear hk a; intro a hk)) | (refine wx3 ?_; clear hk hS a; intro w b hS a hk) | (refine wx4 ?_; clear hk hS a; intro w hS a hk) | (refine wx5 ?_; clear hk hS a; intro w v hS a hk) | fail) | refine wx0 ?_ | (refine s_end hk ?_; clear hk a; intro a hk) | fail))
    have : samL ts us = false := by
      cases h : samL ts us with
      | false => rfl
      | true => have := (hiff.1 h).1; omega
    exact done1 hk (h := ⟨by rw [this], hS.nil⟩)
end Go.Proofs.YtipdgobplfkipaaGreatDoor
namespace Go.Proofs.YtipdgobplfkipaaGreatDoor
open Go.RowKit
set_option maxRecDepth 100000
attribute [local irreducible] Go.Code.wpIn Go.wpListIn Go.Calls Gives Go.Exit.then Go.Exit.inBlock Done ObxE

set_option maxHeartbeats 8000000 in
theorem vsame_any : ∀ (n : Nat) (t u : Tree) (h g : NdH) (w0 : World), SizeOf.sizeOf t < n → Fits t → Fits u → TrR w0 t h → TrR w0 u g → Calls Tryz.prog 14 #[ndV h, ndV g] w0 (Ret fun v w => v = .bool (samT t u) ∧ St w0 [] w)
  | 0, _, _, _, _, _, hn, _, _, _, _ => by omega
  | n + 1, t, u, h, g, w0, hn, hf, hf', hr, hr' => by
    have ih := vsame_any n
    obtain ⟨k, tag, key, text, cl, al, sl, e, lv, m, d, p, q, kids, a1, m1, a2, m2, a3, m3, a4, m4, H, rfl, rfl, c1, c2, c3, c4, hF⟩ := hr.split
    obtain ⟨k', tag', key', text', cl', al', sl', e', lv', m', d', p', q', kids', b1', n1, b2', n2, b3', n3, b4', n4, G, rfl, rfl, g1, g2, g3, g4, hG⟩ := hr'.split
    obtain ⟨l1, l2, l3, l4, l5⟩ := hf
    obtain ⟨l1', l2', l3', l4', l5'⟩ := hf'
    show Calls Tryz.prog 14 #[nodeV k tag key text a1 cl.length m1 a2 al.length m2 a3 sl.length m3 e lv m d p q a4 H.length m4, nodeV k' tag' key' text' b1' cl'.length n1 b2' al'.length n2 b3' sl'.length n3 e' lv' m' d' p' q' b4' G.length n4] w0 _
    have hiff := sam_iff (k := k) (k' := k') (tag := tag) (tag' := tag') (key := key) (key' := key') (text := text) (text' := text') (cl := cl) (cl' := cl') (al := al) (al' := al') (sl := sl) (sl' := sl') (o := (e, lv, m, d, p, q)) (o' := (e', lv', m', d', p', q')) (kids := kids) (kids' := kids')
    have hcs := fun w0 h1 h2 => cSame_any cl cl' (.slice a1 cl.length m1) (.slice b1' cl'.length n1) w0 h1 h2 (by omega)
    have hss := fun w0 h1 h2 => sameS_any al al' (.slice a2 al.length m2) (.slice b2' al'.length n2) w0 h1 h2 (by omega) (by omega)
    have hii := fun w0 h1 h2 => sameI_any sl sl' (.slice a3 sl.length m3) (.slice b3' sl'.length n3) w0 h1 h2 (by omega) (by omega)
    have hee := fun w0 h1 h2 h3 h4 => eqFunc_any 14 (by kernel_rfl) kids kids' H G (.slice a4 H.length m4) (.slice b4' G.length n4) w0 h1 h2 h3 h4 (by omega)
      (fun i t t' hd gd w ht ht' h1 h2 => ih t t' hd gd w (by have := kid_lt (k := k) (tag := tag) (key := key) (text := text) (cl := cl) (at_ := al) (st := sl) (o := (e, lv, m, d, p, q)) (List.mem_of_getElem? ht); omega) (l5 t (List.mem_of_getElem? ht)) (l5' t' (List.mem_of_getElem? ht')) h1 h2)
    refine enter Tryz.func14 rfl Tryz.ntmps14 rfl (fun a hk => ?_); have hS := St.refl w0
    (repeat' (first | (show wpListIn _ _ _ _ _ (_ :: _) _ _; first | (refine wx1 ?_; clear hk a; intro a hk) | (refine wx2 ?_ ?_ <;> (intro hp; clear hk a; intro a hk)) | (refine wx3 ?_; clear hk hS a; intro w b hS a hk) | (refine wx4 ?_; clear hk hS a; intro w hS a hk) | (refine wx5 ?_; clear hk hS a; intro w v hS a hk) | fail) | refine wx0 ?_ | (refine s_end hk ?_; clear hk a; intro a hk) | fail))
    rotate_left
    all_goals try (
      refine done1 hk (h := ⟨congrArg Value.bool (sam_false fun hh => ?_).symm, hS.nil⟩)
      obtain ⟨⟨q1, q2, q3, q4, q5, q6, q7, q8⟩, q9⟩ := hiff.1 hh
      first
        | exact absurd q1 (by assumption)
        | exact absurd q2 (by assumption)
        | exact absurd q3 (by assumption)
        | exact absurd q4 (by assumption)
        | (simp only [Prod.mk.injEq] at q5; obtain ⟨rfl, rfl, rfl, rfl, rfl, rfl⟩ := q5; exact absurd ((eqC_self _).symm.trans (by assumption)) (by decide)))
    have ho : ((e, lv, m, d, p, q) : Opt) = (e', lv', m', d', p', q') := by
      have := eqC_enc (α := Opt) (x := (e, lv, m, d, p, q)) (y := (e', lv', m', d', p', q')) (b := true) (by assumption)
      rwa [if_pos rfl] at this
    have hb1 : k = k' := by assumption
    have hb2 : tag = tag' := by assumption
    have hb3 : key = key' := by assumption
    have hb4 : text = text' := by assumption
    by_cases hcl : cl = cl'
    · rw [decide_eq_true hcl] at hcs
      refine sg hk (g_callO hk (hf := by kernel_rfl) (hc := hcs _ (hS.rdT c1) (hS.rdT g1)) (h := ?_)); clear hk a; rintro _ w ⟨rfl, hS1⟩ a hk; replace hS := hS.call0 hS1; clear hS1
      (repeat' (first | (show wpListIn _ _ _ _ _ (_ :: _) _ _; first | (refine wx1 ?_; clear hk a; intro a hk) | (refine wx2 ?_ ?_ <;> (intro hp; clear hk a; intro a hk)) | (refine wx3 ?_; clear hk hS a; intro w b hS a hk) | (refine wx4 ?_; clear hk hS a; intro w hS a hk) | (refine wx5 ?_; clear hk hS a; intro w v hS a hk) | fail) | refine wx0 ?_ | (refine s_end hk ?_; clear hk a; intro a hk) | fail))
      by_cases hal : snapF nmS al = snapF nmS al'
      · rw [decide_eq_true hal] at hss
        refine sg hk (g_callO hk (hf := by kernel_rfl) (hc := hss _ (hS.rdT c2) (hS.rdT g2)) (h := ?_)); clear hk a; rintro _ w ⟨rfl, hS1⟩ a hk; replace hS := hS.call0 hS1; clear hS1
        (repeat' (first | (show wpListIn _ _ _ _ _ (_ :: _) _ _; first | (refine wx1 ?_; clear hk a; intro a hk) | (refine wx2 ?_ ?_ <;> (intro hp; clear hk a; intro a hk)) | (refine wx3 ?_; clear hk hS a; intro w b hS a hk) | (refine wx4 ?_; clear hk hS a; intro w hS a hk) | (refine wx5 ?_; clear hk hS a; intro w v hS a hk) | fail) | refine wx0 ?_ | (refine s_end hk ?_; clear hk a; intro a hk) | fail))
        by_cases hsl : snapF nmI sl = snapF nmI sl'
        · rw [decide_eq_true hsl] at hii
          refine sg hk (g_callO hk (hf := by kernel_rfl) (hc := hii _ (hS.rdT c3) (hS.rdT g3)) (h := ?_)); clear hk a; rintro _ w ⟨rfl, hS1⟩ a hk; replace hS := hS.call0 hS1; clear hS1
          (repeat' (first | (show wpListIn _ _ _ _ _ (_ :: _) _ _; first | (refine wx1 ?_; clear hk a; intro a hk) | (refine wx2 ?_ ?_ <;> (intro hp; clear hk a; intro a hk)) | (refine wx3 ?_; clear hk hS a; intro w b hS a hk) | (refine wx4 ?_; clear hk hS a; intro w hS a hk) | (refine wx5 ?_; clear hk hS a; intro w v hS a hk) | fail) | refine wx0 ?_ | (refine s_end hk ?_; clear hk a; intro a hk) | fail))
          refine sg hk (g_callO hk (hf := by kernel_rfl) (hc := hee _ (hS.rdT c4) (hS.rdT g4) (hS.rdFo hF) (hS.rdFo hG)) (h := ?_)); clear hk a; rintro _ w ⟨rfl, hS1⟩ a hk; replace hS := hS.call0 hS1; clear hS1
          (repeat' (first | (show wpListIn _ _ _ _ _ (_ :: _) _ _; first | (refine wx1 ?_; clear hk a; intro a hk) | (refine wx2 ?_ ?_ <;> (intro hp; clear hk a; intro a hk)) | (refine wx3 ?_; clear hk hS a; intro w b hS a hk) | (refine wx4 ?_; clear hk hS a; intro w hS a hk) | (refine wx5 ?_; clear hk hS a; intro w v hS a hk) | fail) | refine wx0 ?_ | (refine s_end hk ?_; clear hk a; intro a hk) | fail))
          refine done1 hk (h := ⟨congrArg Value.bool ?_, hS.nil⟩)
          cases hL : samL kids kids' with
          | true => exact (hiff.2 ⟨⟨hb1, hb2, hb3, hb4, ho, hcl, hal, hsl⟩, hL⟩).symm
          | false => exact (sam_false fun hh => by have := (hiff.1 hh).2; rw [hL] at this; cases this).symm
        · rw [decide_eq_false hsl] at hii
          refine sg hk (g_callO hk (hf := by kernel_rfl) (hc := hii _ (hS.rdT c3) (hS.rdT g3)) (h := ?_)); clear hk a; rintro _ w ⟨rfl, hS1⟩ a hk; replace hS := hS.call0 hS1; clear hS1
          (repeat' (first | (show wpListIn _ _ _ _ _ (_ :: _) _ _; first | (refine wx1 ?_; clear hk a; intro a hk) | (refine wx2 ?_ ?_ <;> (intro hp; clear hk a; intro a hk)) | (refine wx3 ?_; clear hk hS a; intro w b hS a hk) | (refine wx4 ?_; clear hk hS a; intro w hS a hk) | (refine wx5 ?_; clear hk hS a; intro w v hS a hk) | fail) | refine wx0 ?_ | (refine s_end hk ?_; clear hk a; intro a hk) | fail))
          exact done1 hk (h := ⟨congrArg Value.bool (sam_false fun hh => hsl (hiff.1 hh).1.2.2.2.2.2.2.2).symm, hS.nil⟩)
      · rw [decide_eq_false hal] at hss
        refine sg hk (g_callO hk (hf := by kernel_rfl) (hc := hss _ (hS.rdT c2) (hS.rdT g2)) (h := ?_)); clear hk a; rintro _ w ⟨rfl, hS1⟩ a hk; replace hS := hS.call0 hS1; clear hS1
        (repeat' (first | (show wpListIn _ _ _ _ _ (_ :: _) _ _; first | (refine wx1 ?_; clear hk a; intro a hk) | (refine wx2 ?_ ?_ <;> (intro hp; clear hk a; intro a hk)) | (refine wx3 ?_; clear hk hS a; intro w b hS a hk) | (refine wx4 ?_; clear hk hS a; intro w hS a hk) | (refine wx5 ?_; clear hk hS a; intro w v hS a hk) | fail) | refine wx0 ?_ | (refine s_end hk ?_; clear hk a; intro a hk) | fail))
        exact done1 hk (h := ⟨congrArg Value.bool (sam_false fun hh => hal (hiff.1 hh).1.2.2.2.2.2.2.1).symm, hS.nil⟩)
    · rw [decide_eq_false hcl] at hcs
      refine sg hk (g_callO hk (hf := by kernel_rfl) (hc := hcs _ (hS.rdT c1) (hS.rdT g1)) (h := ?_)); clear hk a; rintro _ w ⟨rfl, hS1⟩ a hk; replace hS := hS.call0 hS1; clear hS1
      (repeat' (first | (show wpListIn _ _ _ _ _ (_ :: _) _ _; first | (refine wx1 ?_; clear hk a; intro a hk) | (refine wx2 ?_ ?_ <;> (intro hp; clear hk a; intro a hk)) | (refine wx3 ?_; clear hk hS a; intro w b hS a hk) | (refine wx4 ?_; clear hk hS a; intro w hS a hk) | (refine wx5 ?_; clear hk hS a; intro w v hS a hk) | fail) | refine wx0 ?_ | (refine s_end hk ?_; clear hk a; intro a hk) | fail))
      exact done1 hk (h := ⟨congrArg Value.bool (sam_false fun hh => hcl (hiff.1 hh).1.2.2.2.2.2.1).symm, hS.nil⟩)
end Go.Proofs.YtipdgobplfkipaaGreatDoor
