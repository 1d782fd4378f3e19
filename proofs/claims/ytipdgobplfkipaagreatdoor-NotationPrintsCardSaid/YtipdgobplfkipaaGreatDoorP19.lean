/- Layer 7: views as they are shown, shown again; what is kept of a view that may be; in plain words. Layer 8, plain: a view as it is shown, as it is written: short. Layer 7: views as they are shown, by the reference. -/
import Derived.Test.YtipdgobplfkipaaGreatDoorP18
set_option linter.all false
namespace Go.Proofs.YtipdgobplfkipaaGreatDoor
open Go.RowKit

theorem Tree.ind {P : Tree → Prop} (h : ∀ (k : Int) (tag key text : ByteArray) (cl : List ByteArray) (al : List (ByteArray × ByteArray)) (sl : List (ByteArray × Int)) (o : Opt) (kids : List Tree), (∀ t ∈ kids, P t) → P (.mk k tag key text cl al sl o kids)) (t : Tree) : P t := by
  have : ∀ (n : Nat) (t : Tree), SizeOf.sizeOf t < n → P t := by
    intro n
    induction n with
    | zero => intro t h; omega
    | succ n ih =>
      intro t ht
      obtain ⟨k, tag, key, text, cl, al, sl, o, kids⟩ := t
      exact h _ _ _ _ _ _ _ _ _ fun u hu => ih u (by have := kid_lt (k := k) (tag := tag) (key := key) (text := text) (cl := cl) (at_ := al) (st := sl) (o := o) hu; omega)
  exact this _ t (Nat.lt_succ_self _)

open Classical in
theorem cln_sub (l : List ByteArray) : ∀ c ∈ clnC l, c ∈ l := by
  have : ∀ r : List ByteArray, ∀ c ∈ clnC r.reverse, c ∈ r.reverse := by
    intro r
    induction r with
    | nil => simp [clnC]
    | cons x r ih =>
      intro c hc
      rw [List.reverse_cons, clnC_snoc] at hc
      rw [List.reverse_cons]
      unfold addC at hc
      split at hc
      · exact List.mem_append_left _ (ih c hc)
      · rcases List.mem_append.1 hc with h | h
        · exact List.mem_append_left _ (ih c h)
        · exact List.mem_append_right _ h
  have := this l.reverse
  rwa [List.reverse_reverse] at this
theorem mrg_mem {P : Tree → Prop} (hp : ∀ t x, P t → P (t.plus x)) (l : List Tree) (h : ∀ t ∈ l, P t) : ∀ t ∈ mrg l, P t := by
  have : ∀ r : List Tree, (∀ t ∈ r, P t) → ∀ t ∈ mrg r.reverse, P t := by
    intro r
    induction r with
    | nil => intro _ t ht; simp [mrg] at ht
    | cons u r ih =>
      intro hr t ht
      have ih := ih fun t ht => hr t (by simp [ht])
      rw [List.reverse_cons, mrg_snoc] at ht
      unfold mrgS at ht
      split at ht
      · rename_i u0 hu0
        split at ht
        · rcases List.mem_append.1 ht with h | h
          · exact ih t ((List.dropLast_sublist _).subset h)
          · rw [List.mem_singleton] at h
            subst h
            exact hp _ _ (ih u0 (List.mem_of_getLast? hu0))
        · rcases List.mem_append.1 ht with h | h
          · exact ih t h
          · rw [List.mem_singleton] at h; subst h; exact hr t (by simp)
      · rcases List.mem_append.1 ht with h | h
        · exact ih t h
        · rw [List.mem_singleton] at h; subst h; exact hr t (by simp)
  have := this l.reverse (fun t ht => h t (by simpa using ht))
  rwa [List.reverse_reverse] at this
theorem cnt_plus (t : Tree) (x : ByteArray) : cnt (t.plus x) = cnt t := by cases t; simp only [Tree.plus, cnt]
theorem dep_plus (t : Tree) (x : ByteArray) : dep (t.plus x) = dep t := by cases t; simp only [Tree.plus, dep]
theorem mrg_cnt (l : List Tree) : cntL (mrg l) ≤ cntL l ∧ depL (mrg l) ≤ depL l := by
  have : ∀ r : List Tree, cntL (mrg r.reverse) ≤ cntL r.reverse ∧ depL (mrg r.reverse) ≤ depL r.reverse := by
    intro r
    induction r with
    | nil => simp [mrg]
    | cons t r ih =>
      rw [List.reverse_cons, mrg_snoc, cntL_snoc, depL_snoc]
      have ht := cnt_pos t
      unfold mrgS
      split
      · rename_i u hu
        have e := last_split hu
        have e1 := congrArg cntL e
        have e2 := congrArg depL e
        rw [cntL_snoc] at e1
        rw [depL_snoc] at e2
        split
        · rw [cntL_snoc, depL_snoc, cnt_plus, dep_plus]; omega
        · rw [cntL_snoc, depL_snoc]; omega
      · rw [cntL_snoc, depL_snoc]; omega
  have := this l.reverse
  rwa [List.reverse_reverse] at this
theorem nrmL_cnt : ∀ (l : List Tree), (∀ t ∈ l, cnt (nrm t) ≤ cnt t ∧ dep (nrm t) ≤ dep t) → cntL (nrmL l) ≤ cntL l ∧ depL (nrmL l) ≤ depL l
  | [], _ => by simp [nrmL]
  | t :: ts, h => by
    have ih := nrmL_cnt ts fun u hu => h u (by simp [hu])
    have ht := h t (by simp)
    rw [nrmL]
    split
    · simp only [cntL, depL]; omega
    · simp only [cntL, depL]; omega
theorem nrm_cnt (t : Tree) : cnt (nrm t) ≤ cnt t ∧ dep (nrm t) ≤ dep t := by
  induction t using Tree.ind with
  | h k tag key text cl al sl o kids ih =>
    have h1 := mrg_cnt (nrmL kids)
    have h2 := nrmL_cnt kids ih
    simp only [nrm, cnt, dep]
    omega

def lookS (s : ByteArray) : Bool := s.data.toList.all priB
def mayR (k : Int) (tag key text : ByteArray) (cl : List ByteArray) (al : List PrS) (sl : List PrI) (o : Opt) (kids : List Tree) : Bool :=
  if k = 1 then bareB tag key cl al sl o kids && lookS text
  else if k = 2 ∨ k = 3 ∨ k = 4 then decide (text = ⟨#[]⟩) && nameS tag && (namesL cl al sl).all nameS && (decide (key = ⟨#[]⟩) || keyS key) && valB al sl && optsB o k && keptB k kids
  else false
inductive OkR : Tree → Prop
  | mk {k : Int} {tag key text : ByteArray} {cl : List ByteArray} {al : List PrS} {sl : List PrI} {o : Opt} {kids : List Tree}
    (h1 : mayR k tag key text cl al sl o kids = true) (h2 : (namesL cl al sl).any rsvS = false) (h3 : twcB (kids.map Tree.key) = false) (h4 : ∀ t ∈ kids, OkR t) : OkR (.mk k tag key text cl al sl o kids)
mutual
def shortT : Tree → Bool
  | .mk _ _ _ text _ _ _ _ kids => shortL kids && decide (text.size ≤ 64)
def shortL : List Tree → Bool
  | [] => true
  | t :: ts => shortT t && shortL ts
end
def kk (t : Tree) : Int × ByteArray := (t.kind, t.key)
end Go.Proofs.YtipdgobplfkipaaGreatDoor
namespace Go.Proofs.YtipdgobplfkipaaGreatDoor
open Go.RowKit

theorem snap_plus (t : Tree) (x : ByteArray) : snapT (t.plus x) = (snapT t).plus x := by
  cases t; rw [Tree.plus, snapT, snapT, Tree.plus]
theorem snapTs_fix {l : List Tree} (h : ∀ t ∈ l, snapT t = t) : snapTs l = l := by
  rw [snapTs_map]
  exact (List.map_congr_left (fun t ht => h t ht)).trans (List.map_id _)
theorem nrm_snap (t : Tree) : snapT (nrm t) = nrm t := by
  induction t using Tree.ind with
  | h k tag key text cl al sl o kids ih =>
    rw [nrm, snapT, snap_snap, snap_snap]
    congr 1
    refine snapTs_fix (mrg_mem (P := fun t => snapT t = t) (fun t x h => by rw [snap_plus, h]) _ (fun u hu => ?_))
    obtain ⟨t, ht, rfl⟩ := nrmL_mem hu
    exact ih t ht
inductive MidK (X : Nat) : Tree → Prop
  | mk {k : Int} {tag key text : ByteArray} {cl : List ByteArray} {al : List (ByteArray × ByteArray)} {sl : List (ByteArray × Int)} {o : Opt} {kids : List Tree}
    (h : okN k tag key ⟨#[]⟩ cl al sl o) (hx : text.size ≤ X) (hk : ∀ t ∈ kids, MidK X t) : MidK X (.mk k tag key text cl al sl o kids)
theorem MidK.plus {X : Nat} {t : Tree} {x : ByteArray} (h : MidK X t) (hx : (t.plus x).text.size ≤ X) : MidK X (t.plus x) := by
  cases h with
  | mk h1 _ hk => exact .mk h1 hx hk
theorem mrg_midk {X : Nat} (l : List Tree) (hl : ∀ t ∈ l, MidK X t) (hx : txtL l ≤ X) : ∀ u ∈ mrg l, MidK X u := by
  have : ∀ r : List Tree, (∀ t ∈ r, MidK X t) → txtL r.reverse ≤ X → ∀ u ∈ mrg r.reverse, MidK X u := by
    intro r
    induction r with
    | nil => intro _ _ u hu; simp [mrg] at hu
    | cons t r ih =>
      intro hr hx u hu
      have hs := mrgS_txt (mrg r.reverse) t
      have hT := mrg_txt r.reverse
      rw [List.reverse_cons, txtL_snoc] at hx
      have ih := ih (fun t ht => hr t (by simp [ht])) (by omega)
      have ht := hr t (by simp)
      rw [List.reverse_cons, mrg_snoc] at hu
      have hm := txtL_mem hu
      unfold mrgS at hu hs hm
      split at hu
      · rename_i u0 hu0
        have hu1 : u0 ∈ mrg r.reverse := by rw [last_split hu0]; simp
        split at hu
        · rename_i hc
          rcases List.mem_append.1 hu with h | h
          · exact ih u (by rw [last_split hu0]; simp [h])
          · rw [List.mem_singleton] at h
            subst h
            simp only [hu0, if_pos hc] at hm hs
            exact (ih u0 hu1).plus (by omega)
        · rcases List.mem_append.1 hu with h | h
          · exact ih u h
          · rw [List.mem_singleton] at h; subst h; exact ht
      · rcases List.mem_append.1 hu with h | h
        · exact ih u h
        · rw [List.mem_singleton] at h; subst h; exact ht
  have h := this l.reverse (by simpa using hl) (by simpa using hx)
  simpa using h
theorem Small.midk {t : Tree} (h : Small t) : cnt t ≤ 25 → MidK 1800 (nrm t) := by
  induction h with
  | @mk k tag key text cl al sl o kids h hk ih =>
    intro hc
    rw [cnt] at hc
    have hkl := cntL_len kids
    have hfit : ∀ t ∈ kids, Fit 70 t := fun t ht => (hk t ht).fit (by have := cntL_mem ht; omega)
    obtain ⟨b0, b1, b1', b2, b3, b4, b5, b6, b7, b8, b9⟩ := h
    rw [Proofs.YtipdgobplfkipaaGreatDoor.nrm]
    have ht := nrmL_txt kids hfit
    have hn1 := snap_len nmS al
    have hn2 := snap_len nmI sl
    have hn3 := clnC_le cl
    refine .mk ⟨b0, b1, b1', by decide, by omega, fun c hc => b4 c (cln_sub _ c hc), by omega, fun x hx => b6 x (snap_mem nmS hx), by omega, fun x hx => b8 x (snap_mem nmI hx), b9⟩ (by omega) (mrg_midk _ (fun u hu => ?_) (by omega))
    obtain ⟨t, ht, rfl⟩ := nrmL_mem hu
    exact ih t ht (by have := cntL_mem ht; omega)
theorem prB_mid (X : Nat) : ∀ (n : Nat) (t : Tree), SizeOf.sizeOf t < n → MidK X t → (prB (snapT t)).length + 1 ≤ (700 + X) * cnt t
  | 0, t, h, _ => absurd h (by omega)
  | n + 1, .mk k tag key text cl al sl o kids, h, hs => by
    cases hs with
    | mk hok hx hks =>
    have hi := itm_len hok
    obtain ⟨-, k1, -, -⟩ := hok
    have hK : ∀ ts : List Tree, (∀ t ∈ ts, SizeOf.sizeOf t < n ∧ MidK X t) → (prBL (snapTs ts)).length ≤ (700 + X) * cntL ts := by
      intro ts
      induction ts with
      | nil => intro _; simp [snapTs, prBL, cntL]
      | cons t ts ih =>
        intro hts
        have e1 := ih (fun x hx => hts x (.tail _ hx))
        have e2 := prB_mid X n t (hts t (.head _)).1 (hts t (.head _)).2
        rw [snapTs, prBL, cntL, List.length_append, List.length_cons, Nat.mul_add]
        omega
    have hk2 := hK kids (fun t ht => ⟨by
      have := List.sizeOf_lt_of_mem ht
      simp only [Tree.mk.sizeOf_spec] at h
      omega, hks t ht⟩)
    rw [snapT, prB, cnt, Nat.mul_add]
    by_cases hk : k = 1
    · rw [if_pos hk]
      have e : text.data.toList.length = text.size := by simp
      simp only [List.length_cons, List.length_append, List.length_nil]
      omega
    · rw [if_neg hk]
      have e : tag.data.toList.length = tag.size := by simp
      simp only [List.length_cons, List.length_append, List.length_nil]
      omega
theorem midk_po {X : Nat} {t : Tree} (h : MidK X t) : cnt t ≤ 1000 → PO t := by
  induction h with
  | @mk k tag key text cl al sl o kids hok hx hks ih =>
    intro hc
    obtain ⟨-, -, -, -, c1, -, a1, -, s1, s2, o1, o2, o3, -⟩ := hok
    rw [cnt] at hc
    refine .mk (by omega) (by omega) (by omega) (by have := cntL_len kids; omega) (fun x hx => (s2 x hx).2) ⟨o1, o2, o3⟩ (fun t ht => ih t ht (by have := cntL_mem ht; omega))
theorem shown_ok {t : Tree} (h : Small t) (hc : cnt t ≤ 25) : (prnT (snapT (nrm t))).size ≤ 900000 ∧ PO (nrm t) ∧ snapT (nrm t) = nrm t := by
  have h1 := h.midk hc
  have h2 := (nrm_cnt t).1
  have h3 := prB_mid 1800 _ (nrm t) (Nat.lt_succ_self _) h1
  have h4 := prn_bytes _ (snapT (nrm t)) (Nat.lt_succ_self _)
  have h5 : (prnT (snapT (nrm t))).size = (prnT (snapT (nrm t))).data.toList.length := by simp
  refine ⟨?_, midk_po h1 (by omega), nrm_snap t⟩
  rw [h5, h4]
  have : (700 + 1800) * cnt (nrm t) ≤ (700 + 1800) * 25 := Nat.mul_le_mul_left _ (by omega)
  omega
end Go.Proofs.YtipdgobplfkipaaGreatDoor
namespace Go.Proofs.YtipdgobplfkipaaGreatDoor
open Go.RowKit
set_option maxRecDepth 100000
attribute [local irreducible] Go.Code.wpIn Go.wpListIn Go.Calls Gives Go.Exit.then Go.Exit.inBlock Done ObxE

structure N2 where
  H : List NdH
  a : Option Addr
  c : Nat

set_option maxHeartbeats 8000000 in
theorem rnormal_any (X : Nat) (hX : X ≤ 1000000) : ∀ (n : Nat) (t : Tree) (h : NdH) (w0 : World), SizeOf.sizeOf t < n → Fit X t → TrR w0 t h → Calls Tryz.prog 16 #[ndV h] w0 (Ret fun v w => St w0 [treeH (nrm t) v] w)
  | 0, _, _, _, hn, _, _ => by omega
  | n + 1, t, h, w0, hn, hf, hr => by
    have ih := rnormal_any X hX n
    obtain ⟨k, tag, key, text, cl, al, sl, e, lv, m, d, p, q, kids, a1, m1, a2, m2, a3, m3, a4, m4, H, rfl, rfl, c1, c2, c3, c4, hF⟩ := hr.split
    obtain ⟨l1, l2, l3, l4, l5, l6⟩ := hf
    have hHk : H.length = kids.length := hF.1
    show Calls Tryz.prog 16 #[.agg #[.int .i64 k, .string tag, .string key, .string text, .slice a1 cl.length m1, .slice a2 al.length m2, .slice a3 sl.length m3, .int .i64 e, .int .i64 lv, .int .i64 m, .int .i64 d, .bool p, .bool q, .slice a4 H.length m4]] w0 _
    refine enter Tryz.func16 rfl Tryz.ntmps16 rfl (fun a hk => ?_); have hS := St.refl w0
    (repeat' (first | (show wpListIn _ _ _ _ _ (_ :: _) _ _; first | (refine wx1 ?_; clear hk a; intro a hk) | (refine wx2 ?_ ?_ <;> (intro hp; clear hk a; intro a hk)) | (refine wx3 ?_; clear hk hS a; intro w b hS a hk) | (refine wx4 ?_; clear hk hS a; intro w hS a hk) | (refine wx5 ?_; clear hk hS a; intro w v hS a hk) | fail) | refine wx0 ?_ | (refine s_end hk ?_; clear hk a; intro a hk) | fail))
    rename_i b1
    rename Nat => b2
    refine sg hk (g_callO hk (hf := by kernel_rfl) (hc := clean03_any cl _ _ (hS.rdT c1) (by omega)) (h := ?_)); clear hk a; rintro vc w hS1 a hk; replace hS := hS.call hS1; clear hS1
    rw [List.cons_append, List.nil_append] at hS
    obtain ⟨aovc, cvc, hshp, _⟩ := (OwT.rd (hS.rd (A := OwT 9 _ vc) (by (repeat (first | exact At.here | apply At.there))))).shape; subst hshp
    (repeat' (first | (show wpListIn _ _ _ _ _ (_ :: _) _ _; first | (refine wx1 ?_; clear hk a; intro a hk) | (refine wx2 ?_ ?_ <;> (intro hp; clear hk a; intro a hk)) | (refine wx3 ?_; clear hk hS a; intro w b hS a hk) | (refine wx4 ?_; clear hk hS a; intro w hS a hk) | (refine wx5 ?_; clear hk hS a; intro w v hS a hk) | fail) | refine wx0 ?_ | (refine s_end hk ?_; clear hk a; intro a hk) | fail))
    refine sg hk (g_callO hk (hf := by kernel_rfl) (hc := attrs07_any al _ _ (hS.rdT c2) (by omega)) (h := ?_)); clear hk a; rintro va w hS1 a hk; replace hS := hS.call hS1; clear hS1
    rw [List.cons_append, List.nil_append] at hS
    obtain ⟨aova, cva, hshp, _⟩ := (OwT.rd (hS.rd (A := OwT 73 _ va) (by (repeat (first | exact At.here | apply At.there))))).shape; subst hshp
    (repeat' (first | (show wpListIn _ _ _ _ _ (_ :: _) _ _; first | (refine wx1 ?_; clear hk a; intro a hk) | (refine wx2 ?_ ?_ <;> (intro hp; clear hk a; intro a hk)) | (refine wx3 ?_; clear hk hS a; intro w b hS a hk) | (refine wx4 ?_; clear hk hS a; intro w hS a hk) | (refine wx5 ?_; clear hk hS a; intro w v hS a hk) | fail) | refine wx0 ?_ | (refine s_end hk ?_; clear hk a; intro a hk) | fail))
    refine sg hk (g_callO hk (hf := by kernel_rfl) (hc := refOf_any sl _ _ (hS.rdT c3) (by omega)) (h := ?_)); clear hk a; rintro vs w hS1 a hk; replace hS := hS.call hS1; clear hS1
    rw [List.cons_append, List.nil_append] at hS
    obtain ⟨aovs, cvs, hshp, _⟩ := (OwT.rd (hS.rd (A := OwT 75 _ vs) (by (repeat (first | exact At.here | apply At.there))))).shape; subst hshp
    (repeat' (first | (show wpListIn _ _ _ _ _ (_ :: _) _ _; first | (refine wx1 ?_; clear hk a; intro a hk) | (refine wx2 ?_ ?_ <;> (intro hp; clear hk a; intro a hk)) | (refine wx3 ?_; clear hk hS a; intro w b hS a hk) | (refine wx4 ?_; clear hk hS a; intro w hS a hk) | (refine wx5 ?_; clear hk hS a; intro w v hS a hk) | fail) | refine wx0 ?_ | (refine s_end hk ?_; clear hk a; intro a hk) | fail))
    refine sg hk (g_bs0 NdH hS ?_ (hT := eT rfl) (hE := zT rfl)); clear hk hS a; intro w v3 hS a hk
    obtain ⟨aov3, cv3, hshp, _⟩ := (OwT.rd (hS.rd (A := OwT 42 _ v3) (by (repeat (first | exact At.here | apply At.there))))).shape; subst hshp
    have c4' := hS.rdT c4
    (repeat' (first | (show wpListIn _ _ _ _ _ (_ :: _) _ _; first | (refine wx1 ?_; clear hk a; intro a hk) | (refine wx2 ?_ ?_ <;> (intro hp; clear hk a; intro a hk)) | (refine wx3 ?_; clear hk hS a; intro w b hS a hk) | (refine wx4 ?_; clear hk hS a; intro w hS a hk) | (refine wx5 ?_; clear hk hS a; intro w v hS a hk) | fail) | refine wx0 ?_ | (refine s_end hk ?_; clear hk a; intro a hk) | fail))
    replace hS := forR.nil hS
    replace hk := Kn.kp [1, 2, 3, 23, 24, 25] hk
    refine wp_for H.length (fun i v => [(3, .slice v.a v.H.length v.c), (25, .int .i64 (i : Int))]) (fun i v => [forR (nrmL (kids.take i)) v.H, OwT 42 v.H (.slice v.a v.H.length v.c), OwT 75 (snapF nmI sl) (.slice aovs (snapF nmI sl).length cvs), OwT 73 (snapF nmS al) (.slice aova (snapF nmS al).length cva), OwT 9 (clnC cl) (.slice aovc (clnC cl).length cvc), pts b2 [.int .i64 0, .string ⟨#[]⟩, .string ⟨#[]⟩, .string ⟨#[]⟩, .slice none 0 0, .slice none 0 0, .slice none 0 0, .int .i64 0, .int .i64 0, .int .i64 0, .int .i64 0, .bool false, .bool false, .slice none 0 0] 42, pts b1 [.int .i64 k, .string tag, .string key, .string text, .slice aovc (clnC cl).length cvc, .slice aova (snapF nmS al).length cva, .slice aovs (snapF nmI sl).length cvs, .int .i64 e, .int .i64 lv, .int .i64 m, .int .i64 d, .bool p, .bool q, .slice a4 H.length m4] 42]) (fun _ _ => True) (⟨[], aov3, cv3⟩ : N2) hk (by repeat (first | exact trivial | refine ⟨rfl, ?_⟩)) hS.sb trivial ?_
    clear hk hS a c4'
    rintro i ⟨H1, ao1, cc1⟩ a w hi hk hS -
    have hFH := hS.foR .here
    have hnl := nrmL_len (kids.take i)
    rw [List.length_take] at hnl
    have hH1 : H1.length = (nrmL (kids.take i)).length := hFH.1
    clear hFH
    simp only at hS hk
    have c4' := hS.rdT c4
    by_cases hil : i < H.length
    · obtain ⟨tk, htk⟩ : ∃ t, kids[i]? = some t := ⟨_, List.getElem?_eq_getElem (by omega)⟩
      obtain ⟨hd0, hx⟩ : ∃ x, H[i]? = some x := ⟨_, List.getElem?_eq_getElem hil⟩
      have hTr := hF.2 i tk hd0 htk hx
      have hfk := l6 tk (List.mem_of_getElem? htk)
      have hlt : SizeOf.sizeOf tk < n := by have := kid_lt (k := k) (tag := tag) (key := key) (text := text) (cl := cl) (at_ := al) (st := sl) (o := (e, lv, m, d, p, q)) (List.mem_of_getElem? htk); omega
      have hst := nrmL_snoc (kids.take i) tk
      rw [← take_snoc htk] at hst
      obtain ⟨k', tag', key', text', cl', al', sl', e', lv', m', d', p', q', kids', x1, x2, y1, y2, z1, z2, u1, u2, H', rfl, rfl, _⟩ := hTr.split
      by_cases hvd : k' = 1 ∧ text' = ⟨#[]⟩
      · obtain ⟨rfl, rfl⟩ := hvd
        rw [if_pos (show Tree.void (.mk 1 tag' key' ⟨#[]⟩ cl' al' sl' (e', lv', m', d', p', q') kids') from ⟨rfl, rfl⟩)] at hst
        (repeat' (first | (show wpListIn _ _ _ _ _ (_ :: _) _ _; first | (refine wx1 ?_; clear hk a; intro a hk) | (refine wx2 ?_ ?_ <;> (intro hp; clear hk a; intro a hk)) | (refine wx3 ?_; clear hk hS a; intro w b hS a hk) | (refine wx4 ?_; clear hk hS a; intro w hS a hk) | (refine wx5 ?_; clear hk hS a; intro w v hS a hk) | fail) | refine wx0 ?_ | (refine s_end hk ?_; clear hk a; intro a hk) | fail))
        rw [← hst] at hS
        exact ⟨hil, ⟨H1, ao1, cc1⟩, hk.sd, hS.sb, trivial⟩
      · rw [if_neg (show ¬ Tree.void (.mk k' tag' key' text' cl' al' sl' (e', lv', m', d', p', q') kids') from hvd)] at hst
        (repeat' (first | (show wpListIn _ _ _ _ _ (_ :: _) _ _; first | (refine wx1 ?_; clear hk a; intro a hk) | (refine wx2 ?_ ?_ <;> (intro hp; clear hk a; intro a hk)) | (refine wx3 ?_; clear hk hS a; intro w b hS a hk) | (refine wx4 ?_; clear hk hS a; intro w hS a hk) | (refine wx5 ?_; clear hk hS a; intro w v hS a hk) | fail) | refine wx0 ?_ | (refine s_end hk ?_; clear hk a; intro a hk) | fail))
        all_goals (try (exfalso; exact hvd ⟨by assumption, by assumption⟩))
        all_goals (
          refine sg hk (g_callO hk (hf := by kernel_rfl) (hc := ih _ _ _ hlt hfk (hS.rdTr hTr)) (h := ?_)); clear hk a; rintro vn w hS1 a hk; replace hS := hS.call hS1; clear hS1
          rw [List.cons_append, List.nil_append] at hS
          obtain ⟨hd1, rfl, hS1⟩ := St.tree hS .here
          clear hS
          have hS := hS1
          clear hS1
          obtain ⟨k2, tag2, key2, text2, ⟨x12, x22, x32⟩, ⟨y12, y22, y32⟩, ⟨z12, z22, z32⟩, ⟨e2, lv2, m2, d2, p2, q2⟩, ⟨u12, u22, u32⟩⟩ := hd1
          refine sg hk (g_bsT (xs := [((k2, tag2, key2, text2, ⟨x12, x22, x32⟩, ⟨y12, y22, y32⟩, ⟨z12, z22, z32⟩, (e2, lv2, m2, d2, p2, q2), ⟨u12, u22, u32⟩) : NdH)]) (m := 0) hk hS ?_ (hT := eT rfl) (hE := zT rfl) (hz := oT rfl)); clear hk hS a; intro w ve hS a hk
          (repeat' (first | (show wpListIn _ _ _ _ _ (_ :: _) _ _; first | (refine wx1 ?_; clear hk a; intro a hk) | (refine wx2 ?_ ?_ <;> (intro hp; clear hk a; intro a hk)) | (refine wx3 ?_; clear hk hS a; intro w b hS a hk) | (refine wx4 ?_; clear hk hS a; intro w hS a hk) | (refine wx5 ?_; clear hk hS a; intro w v hS a hk) | fail) | refine wx0 ?_ | (refine s_end hk ?_; clear hk a; intro a hk) | fail))
          rename Value => vf
          obtain ⟨aovf, cvf, hshp, _⟩ := (OwT.rd (hS.rd (A := OwT 42 _ vf) (by (repeat (first | exact At.here | apply At.there))))).shape; subst hshp
          generalize ((k2, tag2, key2, text2, ⟨x12, x22, x32⟩, ⟨y12, y22, y32⟩, ⟨z12, z22, z32⟩, (e2, lv2, m2, d2, p2, q2), ⟨u12, u22, u32⟩) : NdH) = hd1 at hS hk
          have hS1 := forR.snoc (t := nrm (.mk k' tag' key' text' cl' al' sl' (e', lv', m', d', p', q') kids')) (h := hd1) (ts := nrmL (kids.take i)) (H := H1) (L := [OwT 42 (H1 ++ [hd1]) (.slice aovf (H1 ++ [hd1]).length cvf), OwT 75 (snapF nmI sl) (.slice aovs (snapF nmI sl).length cvs), OwT 73 (snapF nmS al) (.slice aova (snapF nmS al).length cva), OwT 9 (clnC cl) (.slice aovc (clnC cl).length cvc), pts b2 [.int .i64 0, .string ⟨#[]⟩, .string ⟨#[]⟩, .string ⟨#[]⟩, .slice none 0 0, .slice none 0 0, .slice none 0 0, .int .i64 0, .int .i64 0, .int .i64 0, .int .i64 0, .bool false, .bool false, .slice none 0 0] 42, pts b1 [.int .i64 k, .string tag, .string key, .string text, .slice aovc (clnC cl).length cvc, .slice aova (snapF nmS al).length cva, .slice aovs (snapF nmI sl).length cvs, .int .i64 e, .int .i64 lv, .int .i64 m, .int .i64 d, .bool p, .bool q, .slice a4 H.length m4] 42]) (hS.sub (by (repeat (first | exact Sub.nil | exact Sub.refl | refine Sub.cons (by (repeat (first | exact At.here | apply At.there))) ?_))))
          rw [← hst] at hS1
          exact ⟨hil, ⟨H1 ++ [hd1], aovf, cvf⟩, hk.sd, hS1, trivial⟩)
    · have hii : i = kids.length := by omega
      subst hii
      rw [List.take_length] at hS hnl hH1
      have hl2 := mrg_len (nrmL kids)
      have hn' : nrm (.mk k tag key text cl al sl (e, lv, m, d, p, q) kids) = .mk k tag key text (clnC cl) (snapF nmS al) (snapF nmI sl) (e, lv, m, d, p, q) (mrg (nrmL kids)) := by rw [nrm]
      have hft := nrmL_fit l6
      have htx := nrmL_txt kids l6
      have hxx : X * kids.length ≤ 1000000 * 1000 := Nat.mul_le_mul hX l4
      rw [hn']
      generalize nrmL kids = F at *
      (repeat' (first | (show wpListIn _ _ _ _ _ (_ :: _) _ _; first | (refine wx1 ?_; clear hk a; intro a hk) | (refine wx2 ?_ ?_ <;> (intro hp; clear hk a; intro a hk)) | (refine wx3 ?_; clear hk hS a; intro w b hS a hk) | (refine wx4 ?_; clear hk hS a; intro w hS a hk) | (refine wx5 ?_; clear hk hS a; intro w v hS a hk) | fail) | refine wx0 ?_ | (refine s_end hk ?_; clear hk a; intro a hk) | fail))
      refine sg hk (g_bs0 NdH hS ?_ (hT := eT rfl) (hE := zT rfl)); clear hk hS a; intro w v6 hS a hk
      obtain ⟨aov6, cv6, hshp, _⟩ := (OwT.rd (hS.rd (A := OwT 42 _ v6) (by (repeat (first | exact At.here | apply At.there))))).shape; subst hshp
      (repeat' (first | (show wpListIn _ _ _ _ _ (_ :: _) _ _; first | (refine wx1 ?_; clear hk a; intro a hk) | (refine wx2 ?_ ?_ <;> (intro hp; clear hk a; intro a hk)) | (refine wx3 ?_; clear hk hS a; intro w b hS a hk) | (refine wx4 ?_; clear hk hS a; intro w hS a hk) | (refine wx5 ?_; clear hk hS a; intro w v hS a hk) | fail) | refine wx0 ?_ | (refine s_end hk ?_; clear hk a; intro a hk) | fail))
      replace hS := rdH.imp (R' := fun w => FoR w F H1 ∧ FoR w (mrg (F.take 0)) []) (L := [OwT 42 ([] : List NdH) (.slice aov6 0 cv6), OwT 42 H1 (.slice ao1 H1.length cc1), OwT 75 (snapF nmI sl) (.slice aovs (snapF nmI sl).length cvs), OwT 73 (snapF nmS al) (.slice aova (snapF nmS al).length cva), OwT 9 (clnC cl) (.slice aovc (clnC cl).length cvc), pts b2 [.int .i64 0, .string ⟨#[]⟩, .string ⟨#[]⟩, .string ⟨#[]⟩, .slice none 0 0, .slice none 0 0, .slice none 0 0, .int .i64 0, .int .i64 0, .int .i64 0, .int .i64 0, .bool false, .bool false, .slice none 0 0] 42, pts b1 [.int .i64 k, .string tag, .string key, .string text, .slice aovc (clnC cl).length cvc, .slice aova (snapF nmS al).length cva, .slice aovs (snapF nmI sl).length cvs, .int .i64 e, .int .i64 lv, .int .i64 m, .int .i64 d, .bool p, .bool q, .slice a4 H.length m4] 42]) (hS.sub (by (repeat (first | exact Sub.nil | exact Sub.refl | refine Sub.cons (by (repeat (first | exact At.here | apply At.there))) ?_)))) (FoR.stays F H1) (fun g hg => ⟨hg, FoR.nil g⟩)
      replace hk := Kn.kp [1, 2, 3, 6, 44, 45, 46] hk
      refine wp_for H1.length (fun i v => [(6, .slice v.a v.H.length v.c), (46, .int .i64 (i : Int))]) (fun i v => [forR2 F (mrg (F.take i)) H1 v.H, OwT 42 v.H (.slice v.a v.H.length v.c), OwT 42 H1 (.slice ao1 H1.length cc1), OwT 75 (snapF nmI sl) (.slice aovs (snapF nmI sl).length cvs), OwT 73 (snapF nmS al) (.slice aova (snapF nmS al).length cva), OwT 9 (clnC cl) (.slice aovc (clnC cl).length cvc), pts b2 [.int .i64 0, .string ⟨#[]⟩, .string ⟨#[]⟩, .string ⟨#[]⟩, .slice none 0 0, .slice none 0 0, .slice none 0 0, .int .i64 0, .int .i64 0, .int .i64 0, .int .i64 0, .bool false, .bool false, .slice none 0 0] 42, pts b1 [.int .i64 k, .string tag, .string key, .string text, .slice aovc (clnC cl).length cvc, .slice aova (snapF nmS al).length cva, .slice aovs (snapF nmI sl).length cvs, .int .i64 e, .int .i64 lv, .int .i64 m, .int .i64 d, .bool p, .bool q, .slice a4 H.length m4] 42]) (fun _ _ => True) (⟨[], aov6, cv6⟩ : N2) hk (by repeat (first | exact trivial | refine ⟨rfl, ?_⟩)) hS.sb trivial ?_
      clear hk hS a c4'
      rintro i ⟨H2, ao2, cc2⟩ a w hi hk hS -
      obtain ⟨hFF, hFM⟩ := hS.foR2 .here
      simp only at hS hk hFM
      by_cases hil : i < H1.length
      · obtain ⟨tk, htk⟩ : ∃ t, F[i]? = some t := ⟨_, List.getElem?_eq_getElem (by omega)⟩
        obtain ⟨hd0, hx⟩ : ∃ x, H1[i]? = some x := ⟨_, List.getElem?_eq_getElem hil⟩
        have hTr := hFF.2 i tk hd0 htk hx
        have hst := mrg_snoc (F.take i) tk
        rw [← take_snoc htk] at hst
        obtain ⟨k', tag', key', text', cl', al', sl', e', lv', m', d', p', q', kids', x1, x2, y1, y2, z1, z2, u1, u2, H', rfl, rfl, _⟩ := hTr.split
        have hml := mrg_len (F.take i)
        rw [List.length_take] at hml
        have hH2 : H2.length = (mrg (F.take i)).length := hFM.1
        have htF := txtL_take F i
        have htm := mrg_txt (F.take i)
        have htt := txtL_mem (List.mem_of_getElem? htk)
        simp only [Tree.text] at htt
        rcases Nat.eq_zero_or_pos i with h0 | h0
        · subst h0
          have hst' : mrg (F.take (0 + 1)) = mrg (F.take 0) ++ [.mk k' tag' key' text' cl' al' sl' (e', lv', m', d', p', q') kids'] := by rw [hst]; simp [mrg, mrgS]
          have hem : mrg (F.take 0) = [] := rfl
          (repeat' (first | (show wpListIn _ _ _ _ _ (_ :: _) _ _; first | (refine wx1 ?_; clear hk a; intro a hk) | (refine wx2 ?_ ?_ <;> (intro hp; clear hk a; intro a hk)) | (refine wx3 ?_; clear hk hS a; intro w b hS a hk) | (refine wx4 ?_; clear hk hS a; intro w hS a hk) | (refine wx5 ?_; clear hk hS a; intro w v hS a hk) | fail) | refine wx0 ?_ | (refine s_end hk ?_; clear hk a; intro a hk) | fail))
          have hx4 := lt_of_get hx
          refine sg hk (g_bsT (xs := [((k', tag', key', text', ⟨x1, cl'.length, x2⟩, ⟨y1, al'.length, y2⟩, ⟨z1, sl'.length, z2⟩, (e', lv', m', d', p', q'), ⟨u1, H'.length, u2⟩) : NdH)]) (m := 0) hk hS ?_ (hT := eT rfl) (hE := zT rfl) (hz := oT rfl)); clear hk hS a; intro w ve hS a hk
          (repeat' (first | (show wpListIn _ _ _ _ _ (_ :: _) _ _; first | (refine wx1 ?_; clear hk a; intro a hk) | (refine wx2 ?_ ?_ <;> (intro hp; clear hk a; intro a hk)) | (refine wx3 ?_; clear hk hS a; intro w b hS a hk) | (refine wx4 ?_; clear hk hS a; intro w hS a hk) | (refine wx5 ?_; clear hk hS a; intro w v hS a hk) | fail) | refine wx0 ?_ | (refine s_end hk ?_; clear hk a; intro a hk) | fail))
          rename Value => vf
          obtain ⟨aovf, cvf, hshp, _⟩ := (OwT.rd (hS.rd (A := OwT 42 _ vf) (by (repeat (first | exact At.here | apply At.there))))).shape; subst hshp
          generalize ((k', tag', key', text', ⟨x1, cl'.length, x2⟩, ⟨y1, al'.length, y2⟩, ⟨z1, sl'.length, z2⟩, (e', lv', m', d', p', q'), ⟨u1, H'.length, u2⟩) : NdH) = hd1 at hS hk hx
          have hS1 := rdH.imp (R' := fun w => FoR w F H1 ∧ FoR w (mrg (F.take (0 + 1))) (H2 ++ [hd1])) (L := [OwT 42 (H2 ++ [hd1]) (.slice aovf (H2 ++ [hd1]).length cvf), OwT 42 H1 (.slice ao1 H1.length cc1), OwT 75 (snapF nmI sl) (.slice aovs (snapF nmI sl).length cvs), OwT 73 (snapF nmS al) (.slice aova (snapF nmS al).length cva), OwT 9 (clnC cl) (.slice aovc (clnC cl).length cvc), pts b2 [.int .i64 0, .string ⟨#[]⟩, .string ⟨#[]⟩, .string ⟨#[]⟩, .slice none 0 0, .slice none 0 0, .slice none 0 0, .int .i64 0, .int .i64 0, .int .i64 0, .int .i64 0, .bool false, .bool false, .slice none 0 0] 42, pts b1 [.int .i64 k, .string tag, .string key, .string text, .slice aovc (clnC cl).length cvc, .slice aova (snapF nmS al).length cva, .slice aovs (snapF nmI sl).length cvs, .int .i64 e, .int .i64 lv, .int .i64 m, .int .i64 d, .bool p, .bool q, .slice a4 H.length m4] 42]) (hS.sub (by (repeat (first | exact Sub.nil | exact Sub.refl | refine Sub.cons (by (repeat (first | exact At.here | apply At.there))) ?_)))) (FoR.stays2 F (mrg (F.take 0)) H1 H2) (fun g hg => ⟨hg.1, by rw [hst']; exact hg.2.snoc (hg.1.2 0 _ hd1 htk hx)⟩)
          exact ⟨hil, ⟨H2 ++ [hd1], aovf, cvf⟩, hk.sd, hS1, trivial⟩
        · obtain ⟨j, rfl⟩ : ∃ j, i = j + 1 := ⟨i - 1, by omega⟩
          obtain ⟨tp, htp⟩ : ∃ t, F[j]? = some t := ⟨_, List.getElem?_eq_getElem (by omega)⟩
          obtain ⟨hdp, hxp⟩ : ∃ x, H1[j]? = some x := ⟨_, List.getElem?_eq_getElem (by omega)⟩
          have hTp := hFF.2 j tp hdp htp hxp
          obtain ⟨M, u, hM, huk⟩ := mrg_last htp
          have hxp' : H1[(((j + 1 : Nat) : Int) - 1).toNat]? = some hdp := by rw [show (((j + 1 : Nat) : Int) - 1).toNat = j by omega]; exact hxp
          obtain ⟨kp, tagp, keyp, textp, clp, alp, slp, ep, lvp, mp, dp, pp, qp, kidsp, xp1, xp2, yp1, yp2, zp1, zp2, up1, up2, Hp, rfl, rfl, _⟩ := hTp.split
          have huk : u.kind = kp := huk
          by_cases hmg : k' = 1 ∧ kp = 1
          · obtain ⟨rfl, rfl⟩ := hmg
            have hum : u ∈ M ++ [u] := by simp
            rw [hM] at hS hFM hst hH2 htm hml
            have htu := txtL_mem hum
            rw [mrgS_app, if_pos ⟨rfl, huk⟩] at hst
            have hne : H2 ≠ [] := by intro e0; subst e0; simp at hH2
            obtain ⟨Hd0, hdu, rfl⟩ : ∃ Hd0 h, H2 = Hd0 ++ [h] := ⟨H2.dropLast, H2.getLast hne, (List.dropLast_concat_getLast hne).symm⟩
            have hpos : 1 ≤ (Hd0 ++ [hdu]).length := by simp
            obtain ⟨ku, tagu, keyu, textu, clu, alu, slu, eu, lvu, mu, du, pu, qu, kidsu, xu1, xu2, yu1, yu2, zu1, zu2, uu1, uu2, Hu, rfl, rfl, _⟩ := hFM.init.2.split
            simp only [Tree.text, Tree.plus] at htu hst
            have hxu : (Hd0 ++ [((ku, tagu, keyu, textu, ⟨xu1, clu.length, xu2⟩, ⟨yu1, alu.length, yu2⟩, ⟨zu1, slu.length, zu2⟩, (eu, lvu, mu, du, pu, qu), ⟨uu1, Hu.length, uu2⟩) : NdH)])[(((Hd0 ++ [((ku, tagu, keyu, textu, ⟨xu1, clu.length, xu2⟩, ⟨yu1, alu.length, yu2⟩, ⟨zu1, slu.length, zu2⟩, (eu, lvu, mu, du, pu, qu), ⟨uu1, Hu.length, uu2⟩) : NdH)]).length : Int) - 1).toNat]? = some ((ku, tagu, keyu, textu, ⟨xu1, clu.length, xu2⟩, ⟨yu1, alu.length, yu2⟩, ⟨zu1, slu.length, zu2⟩, (eu, lvu, mu, du, pu, qu), ⟨uu1, Hu.length, uu2⟩) : NdH) := by
              rw [List.length_append, List.length_singleton, show (((Hd0.length + 1 : Nat) : Int) - 1).toNat = Hd0.length by omega]
              simp
            (repeat' (first | (show wpListIn _ _ _ _ _ (_ :: _) _ _; first | (refine wx1 ?_; clear hk a; intro a hk) | (refine wx2 ?_ ?_ <;> (intro hp; clear hk a; intro a hk)) | (refine wx3 ?_; clear hk hS a; intro w b hS a hk) | (refine wx4 ?_; clear hk hS a; intro w hS a hk) | (refine wx5 ?_; clear hk hS a; intro w v hS a hk) | fail) | refine wx0 ?_ | (refine s_end hk ?_; clear hk a; intro a hk) | fail))
            refine wp_drawn 12 mixed (by kernel_rfl) hk hS ?_; clear hk hS a
            (repeat' (first | (show ObxE _ _ _ _ _ _ _ _ _ (_ :: _) _ _ _; first | refine ox1 ?_ | (refine ox2 ?_ ?_ <;> intro hp) | fail) | fail))
            refine' obe_val (fun us a w hk hd hS => ?_) ?_; rotate_left; focus (have hk := Kn.vw hk (by repeat (first | exact VW.nil | apply VW.val rfl | apply VW.base rfl rfl | apply VW.res rfl | apply VW.upd rfl | apply VW.cpy rfl | apply VW.dep rfl | apply VW.fn rfl | apply VW.lnd rfl | apply VW.tak rfl)); exact g_cat hk (same _ _) (hl := by simp only [maxLen]; omega))
            (repeat' (first | (show ObxE _ _ _ _ _ _ _ _ _ (_ :: _) _ _ _; first | refine ox1 ?_ | (refine ox2 ?_ ?_ <;> intro hp) | fail) | fail))
            refine obe_nil ⟨rfl, ?_⟩; intro us a w hk hS
            have hgl : ∀ h, (Hd0 ++ [((ku, tagu, keyu, textu, ⟨xu1, clu.length, xu2⟩, ⟨yu1, alu.length, yu2⟩, ⟨zu1, slu.length, zu2⟩, (eu, lvu, mu, du, pu, qu), ⟨uu1, Hu.length, uu2⟩) : NdH)])[Hd0.length]'h = ((ku, tagu, keyu, textu, ⟨xu1, clu.length, xu2⟩, ⟨yu1, alu.length, yu2⟩, ⟨zu1, slu.length, zu2⟩, (eu, lvu, mu, du, pu, qu), ⟨uu1, Hu.length, uu2⟩) : NdH) := by intro h; rw [List.getElem_append_right (Nat.le_refl _)]; simp
            refine su hk (g_stF (xs := Hd0 ++ [((ku, tagu, keyu, textu, ⟨xu1, clu.length, xu2⟩, ⟨yu1, alu.length, yu2⟩, ⟨zu1, slu.length, zu2⟩, (eu, lvu, mu, du, pu, qu), ⟨uu1, Hu.length, uu2⟩) : NdH)]) (i := Hd0.length) (f := 3) (z := ((ku, tagu, keyu, textu ++ text', ⟨xu1, clu.length, xu2⟩, ⟨yu1, alu.length, yu2⟩, ⟨zu1, slu.length, zu2⟩, (eu, lvu, mu, du, pu, qu), ⟨uu1, Hu.length, uu2⟩) : NdH)) hk hS ?_ (ho := by rw [List.length_append, List.length_singleton, show (((Hd0.length + 1 : Nat) : Int) - 1).toNat = Hd0.length by omega]) (hi := by simp) (hf := by decide) (hz := by rw [hgl]; rfl) (hsz := zT rfl))
            clear hk hS a; intro w hS a hk
            have hset : (Hd0 ++ [((ku, tagu, keyu, textu, ⟨xu1, clu.length, xu2⟩, ⟨yu1, alu.length, yu2⟩, ⟨zu1, slu.length, zu2⟩, (eu, lvu, mu, du, pu, qu), ⟨uu1, Hu.length, uu2⟩) : NdH)]).set Hd0.length ((ku, tagu, keyu, textu ++ text', ⟨xu1, clu.length, xu2⟩, ⟨yu1, alu.length, yu2⟩, ⟨zu1, slu.length, zu2⟩, (eu, lvu, mu, du, pu, qu), ⟨uu1, Hu.length, uu2⟩) : NdH) = Hd0 ++ [((ku, tagu, keyu, textu ++ text', ⟨xu1, clu.length, xu2⟩, ⟨yu1, alu.length, yu2⟩, ⟨zu1, slu.length, zu2⟩, (eu, lvu, mu, du, pu, qu), ⟨uu1, Hu.length, uu2⟩) : NdH)] := by simp
            rw [hset] at hS
            have hle : (Hd0 ++ [((ku, tagu, keyu, textu, ⟨xu1, clu.length, xu2⟩, ⟨yu1, alu.length, yu2⟩, ⟨zu1, slu.length, zu2⟩, (eu, lvu, mu, du, pu, qu), ⟨uu1, Hu.length, uu2⟩) : NdH)]).length = (Hd0 ++ [((ku, tagu, keyu, textu ++ text', ⟨xu1, clu.length, xu2⟩, ⟨yu1, alu.length, yu2⟩, ⟨zu1, slu.length, zu2⟩, (eu, lvu, mu, du, pu, qu), ⟨uu1, Hu.length, uu2⟩) : NdH)]).length := by simp
            (repeat' (first | (show wpListIn _ _ _ _ _ (_ :: _) _ _; first | (refine wx1 ?_; clear hk a; intro a hk) | (refine wx2 ?_ ?_ <;> (intro hp; clear hk a; intro a hk)) | (refine wx3 ?_; clear hk hS a; intro w b hS a hk) | (refine wx4 ?_; clear hk hS a; intro w hS a hk) | (refine wx5 ?_; clear hk hS a; intro w v hS a hk) | fail) | refine wx0 ?_ | (refine s_end hk ?_; clear hk a; intro a hk) | fail))
            have hS1 := rdH.imp (R' := fun w => FoR w F H1 ∧ FoR w (mrg (F.take (j + 1 + 1))) (Hd0 ++ [((ku, tagu, keyu, textu ++ text', ⟨xu1, clu.length, xu2⟩, ⟨yu1, alu.length, yu2⟩, ⟨zu1, slu.length, zu2⟩, (eu, lvu, mu, du, pu, qu), ⟨uu1, Hu.length, uu2⟩) : NdH)])) (L := [OwT 42 (Hd0 ++ [((ku, tagu, keyu, textu ++ text', ⟨xu1, clu.length, xu2⟩, ⟨yu1, alu.length, yu2⟩, ⟨zu1, slu.length, zu2⟩, (eu, lvu, mu, du, pu, qu), ⟨uu1, Hu.length, uu2⟩) : NdH)]) (.slice ao2 (Hd0 ++ [((ku, tagu, keyu, textu, ⟨xu1, clu.length, xu2⟩, ⟨yu1, alu.length, yu2⟩, ⟨zu1, slu.length, zu2⟩, (eu, lvu, mu, du, pu, qu), ⟨uu1, Hu.length, uu2⟩) : NdH)]).length cc2), OwT 42 H1 (.slice ao1 H1.length cc1), OwT 75 (snapF nmI sl) (.slice aovs (snapF nmI sl).length cvs), OwT 73 (snapF nmS al) (.slice aova (snapF nmS al).length cva), OwT 9 (clnC cl) (.slice aovc (clnC cl).length cvc), pts b2 [.int .i64 0, .string ⟨#[]⟩, .string ⟨#[]⟩, .string ⟨#[]⟩, .slice none 0 0, .slice none 0 0, .slice none 0 0, .int .i64 0, .int .i64 0, .int .i64 0, .int .i64 0, .bool false, .bool false, .slice none 0 0] 42, pts b1 [.int .i64 k, .string tag, .string key, .string text, .slice aovc (clnC cl).length cvc, .slice aova (snapF nmS al).length cva, .slice aovs (snapF nmI sl).length cvs, .int .i64 e, .int .i64 lv, .int .i64 m, .int .i64 d, .bool p, .bool q, .slice a4 H.length m4] 42]) (hS.sub (by (repeat (first | exact Sub.nil | exact Sub.refl | refine Sub.cons (by (repeat (first | exact At.here | apply At.there))) ?_)))) (FoR.stays2 F (M ++ [.mk ku tagu keyu textu clu alu slu (eu, lvu, mu, du, pu, qu) kidsu]) H1 (Hd0 ++ [((ku, tagu, keyu, textu, ⟨xu1, clu.length, xu2⟩, ⟨yu1, alu.length, yu2⟩, ⟨zu1, slu.length, zu2⟩, (eu, lvu, mu, du, pu, qu), ⟨uu1, Hu.length, uu2⟩) : NdH)])) (fun g hg => ⟨hg.1, by rw [hst]; exact hg.2.plus⟩)
            rw [hle] at hS1
            rw [hle] at hk
            exact ⟨hil, ⟨Hd0 ++ [((ku, tagu, keyu, textu ++ text', ⟨xu1, clu.length, xu2⟩, ⟨yu1, alu.length, yu2⟩, ⟨zu1, slu.length, zu2⟩, (eu, lvu, mu, du, pu, qu), ⟨uu1, Hu.length, uu2⟩) : NdH)], ao2, cc2⟩, hk.sd, hS1, trivial⟩
          · have hst' : mrg (F.take (j + 1 + 1)) = mrg (F.take (j + 1)) ++ [.mk k' tag' key' text' cl' al' sl' (e', lv', m', d', p', q') kids'] := by
              rw [hst, hM, mrgS_app, if_neg (by rw [huk]; exact hmg)]
            clear hM
            by_cases hk1 : k' = 1
            · have hkp : ¬ kp = 1 := fun h => hmg ⟨hk1, h⟩
              (repeat' (first | (show wpListIn _ _ _ _ _ (_ :: _) _ _; first | (refine wx1 ?_; clear hk a; intro a hk) | (refine wx2 ?_ ?_ <;> (intro hp; clear hk a; intro a hk)) | (refine wx3 ?_; clear hk hS a; intro w b hS a hk) | (refine wx4 ?_; clear hk hS a; intro w hS a hk) | (refine wx5 ?_; clear hk hS a; intro w v hS a hk) | fail) | refine wx0 ?_ | (refine s_end hk ?_; clear hk a; intro a hk) | fail))
              have hx4 := lt_of_get hx
              refine sg hk (g_bsT (xs := [((k', tag', key', text', ⟨x1, cl'.length, x2⟩, ⟨y1, al'.length, y2⟩, ⟨z1, sl'.length, z2⟩, (e', lv', m', d', p', q'), ⟨u1, H'.length, u2⟩) : NdH)]) (m := 0) hk hS ?_ (hT := eT rfl) (hE := zT rfl) (hz := oT rfl)); clear hk hS a; intro w ve hS a hk
              (repeat' (first | (show wpListIn _ _ _ _ _ (_ :: _) _ _; first | (refine wx1 ?_; clear hk a; intro a hk) | (refine wx2 ?_ ?_ <;> (intro hp; clear hk a; intro a hk)) | (refine wx3 ?_; clear hk hS a; intro w b hS a hk) | (refine wx4 ?_; clear hk hS a; intro w hS a hk) | (refine wx5 ?_; clear hk hS a; intro w v hS a hk) | fail) | refine wx0 ?_ | (refine s_end hk ?_; clear hk a; intro a hk) | fail))
              rename Value => vf
              obtain ⟨aovf, cvf, hshp, _⟩ := (OwT.rd (hS.rd (A := OwT 42 _ vf) (by (repeat (first | exact At.here | apply At.there))))).shape; subst hshp
              generalize ((k', tag', key', text', ⟨x1, cl'.length, x2⟩, ⟨y1, al'.length, y2⟩, ⟨z1, sl'.length, z2⟩, (e', lv', m', d', p', q'), ⟨u1, H'.length, u2⟩) : NdH) = hd1 at hS hk hx
              have hS1 := rdH.imp (R' := fun w => FoR w F H1 ∧ FoR w (mrg (F.take ((j + 1) + 1))) (H2 ++ [hd1])) (L := [OwT 42 (H2 ++ [hd1]) (.slice aovf (H2 ++ [hd1]).length cvf), OwT 42 H1 (.slice ao1 H1.length cc1), OwT 75 (snapF nmI sl) (.slice aovs (snapF nmI sl).length cvs), OwT 73 (snapF nmS al) (.slice aova (snapF nmS al).length cva), OwT 9 (clnC cl) (.slice aovc (clnC cl).length cvc), pts b2 [.int .i64 0, .string ⟨#[]⟩, .string ⟨#[]⟩, .string ⟨#[]⟩, .slice none 0 0, .slice none 0 0, .slice none 0 0, .int .i64 0, .int .i64 0, .int .i64 0, .int .i64 0, .bool false, .bool false, .slice none 0 0] 42, pts b1 [.int .i64 k, .string tag, .string key, .string text, .slice aovc (clnC cl).length cvc, .slice aova (snapF nmS al).length cva, .slice aovs (snapF nmI sl).length cvs, .int .i64 e, .int .i64 lv, .int .i64 m, .int .i64 d, .bool p, .bool q, .slice a4 H.length m4] 42]) (hS.sub (by (repeat (first | exact Sub.nil | exact Sub.refl | refine Sub.cons (by (repeat (first | exact At.here | apply At.there))) ?_)))) (FoR.stays2 F (mrg (F.take (j + 1))) H1 H2) (fun g hg => ⟨hg.1, by rw [hst']; exact hg.2.snoc (hg.1.2 (j + 1) _ hd1 htk hx)⟩)
              exact ⟨hil, ⟨H2 ++ [hd1], aovf, cvf⟩, hk.sd, hS1, trivial⟩
            · skip
              (repeat' (first | (show wpListIn _ _ _ _ _ (_ :: _) _ _; first | (refine wx1 ?_; clear hk a; intro a hk) | (refine wx2 ?_ ?_ <;> (intro hp; clear hk a; intro a hk)) | (refine wx3 ?_; clear hk hS a; intro w b hS a hk) | (refine wx4 ?_; clear hk hS a; intro w hS a hk) | (refine wx5 ?_; clear hk hS a; intro w v hS a hk) | fail) | refine wx0 ?_ | (refine s_end hk ?_; clear hk a; intro a hk) | fail))
              have hx4 := lt_of_get hx
              refine sg hk (g_bsT (xs := [((k', tag', key', text', ⟨x1, cl'.length, x2⟩, ⟨y1, al'.length, y2⟩, ⟨z1, sl'.length, z2⟩, (e', lv', m', d', p', q'), ⟨u1, H'.length, u2⟩) : NdH)]) (m := 0) hk hS ?_ (hT := eT rfl) (hE := zT rfl) (hz := oT rfl)); clear hk hS a; intro w ve hS a hk
              (repeat' (first | (show wpListIn _ _ _ _ _ (_ :: _) _ _; first | (refine wx1 ?_; clear hk a; intro a hk) | (refine wx2 ?_ ?_ <;> (intro hp; clear hk a; intro a hk)) | (refine wx3 ?_; clear hk hS a; intro w b hS a hk) | (refine wx4 ?_; clear hk hS a; intro w hS a hk) | (refine wx5 ?_; clear hk hS a; intro w v hS a hk) | fail) | refine wx0 ?_ | (refine s_end hk ?_; clear hk a; intro a hk) | fail))
              rename Value => vf
              obtain ⟨aovf, cvf, hshp, _⟩ := (OwT.rd (hS.rd (A := OwT 42 _ vf) (by (repeat (first | exact At.here | apply At.there))))).shape; subst hshp
              generalize ((k', tag', key', text', ⟨x1, cl'.length, x2⟩, ⟨y1, al'.length, y2⟩, ⟨z1, sl'.length, z2⟩, (e', lv', m', d', p', q'), ⟨u1, H'.length, u2⟩) : NdH) = hd1 at hS hk hx
              have hS1 := rdH.imp (R' := fun w => FoR w F H1 ∧ FoR w (mrg (F.take ((j + 1) + 1))) (H2 ++ [hd1])) (L := [OwT 42 (H2 ++ [hd1]) (.slice aovf (H2 ++ [hd1]).length cvf), OwT 42 H1 (.slice ao1 H1.length cc1), OwT 75 (snapF nmI sl) (.slice aovs (snapF nmI sl).length cvs), OwT 73 (snapF nmS al) (.slice aova (snapF nmS al).length cva), OwT 9 (clnC cl) (.slice aovc (clnC cl).length cvc), pts b2 [.int .i64 0, .string ⟨#[]⟩, .string ⟨#[]⟩, .string ⟨#[]⟩, .slice none 0 0, .slice none 0 0, .slice none 0 0, .int .i64 0, .int .i64 0, .int .i64 0, .int .i64 0, .bool false, .bool false, .slice none 0 0] 42, pts b1 [.int .i64 k, .string tag, .string key, .string text, .slice aovc (clnC cl).length cvc, .slice aova (snapF nmS al).length cva, .slice aovs (snapF nmI sl).length cvs, .int .i64 e, .int .i64 lv, .int .i64 m, .int .i64 d, .bool p, .bool q, .slice a4 H.length m4] 42]) (hS.sub (by (repeat (first | exact Sub.nil | exact Sub.refl | refine Sub.cons (by (repeat (first | exact At.here | apply At.there))) ?_)))) (FoR.stays2 F (mrg (F.take (j + 1))) H1 H2) (fun g hg => ⟨hg.1, by rw [hst']; exact hg.2.snoc (hg.1.2 (j + 1) _ hd1 htk hx)⟩)
              exact ⟨hil, ⟨H2 ++ [hd1], aovf, cvf⟩, hk.sd, hS1, trivial⟩
      · have hii : i = H1.length := by omega
        subst hii
        rw [hH1, List.take_length] at hFM
        have hS2 := rdH.imp (R' := fun w => FoR w (mrg F) H2) (L := [OwT 42 H2 (.slice ao2 H2.length cc2), OwT 75 (snapF nmI sl) (.slice aovs (snapF nmI sl).length cvs), OwT 73 (snapF nmS al) (.slice aova (snapF nmS al).length cva), OwT 9 (clnC cl) (.slice aovc (clnC cl).length cvc), pts b2 [.int .i64 0, .string ⟨#[]⟩, .string ⟨#[]⟩, .string ⟨#[]⟩, .slice none 0 0, .slice none 0 0, .slice none 0 0, .int .i64 0, .int .i64 0, .int .i64 0, .int .i64 0, .bool false, .bool false, .slice none 0 0] 42, pts b1 [.int .i64 k, .string tag, .string key, .string text, .slice aovc (clnC cl).length cvc, .slice aova (snapF nmS al).length cva, .slice aovs (snapF nmI sl).length cvs, .int .i64 e, .int .i64 lv, .int .i64 m, .int .i64 d, .bool p, .bool q, .slice a4 H.length m4] 42]) (hS.sub (by (repeat (first | exact Sub.nil | exact Sub.refl | refine Sub.cons (by (repeat (first | exact At.here | apply At.there))) ?_)))) (FoR.stays2 F (mrg (F.take H1.length)) H1 H2) (fun g hg => by have := hg.2; rwa [hH1, List.take_length] at this)
        clear hS
        have hS := hS2
        clear hS2
        (repeat' (first | (show wpListIn _ _ _ _ _ (_ :: _) _ _; first | (refine wx1 ?_; clear hk a; intro a hk) | (refine wx2 ?_ ?_ <;> (intro hp; clear hk a; intro a hk)) | (refine wx3 ?_; clear hk hS a; intro w b hS a hk) | (refine wx4 ?_; clear hk hS a; intro w hS a hk) | (refine wx5 ?_; clear hk hS a; intro w v hS a hk) | fail) | refine wx0 ?_ | (refine s_end hk ?_; clear hk a; intro a hk) | fail))
        refine done1R hk rfl (.str hS (hT := aT rfl) (hs := zT rfl)) (h := ?_)
        have hHm : H2.length = (mrg F).length := hFM.1
        exact treeH.of (h := (k, tag, key, text, ⟨aovc, (clnC cl).length, cvc⟩, ⟨aova, (snapF nmS al).length, cva⟩, ⟨aovs, (snapF nmI sl).length, cvs⟩, (e, lv, m, d, p, q), ⟨ao2, H2.length, cc2⟩)) (treeR.of (A1 := OwT 9 (clnC cl) (.slice aovc (clnC cl).length cvc)) (A2 := OwT 73 (snapF nmS al) (.slice aova (snapF nmS al).length cva)) (A3 := OwT 75 (snapF nmI sl) (.slice aovs (snapF nmI sl).length cvs)) (A4 := OwT 42 H2 (.slice ao2 H2.length cc2)) (hS.sub (by (repeat (first | exact Sub.nil | exact Sub.refl | refine Sub.cons (by (repeat (first | exact At.here | apply At.there))) ?_)))))
end Go.Proofs.YtipdgobplfkipaaGreatDoor
