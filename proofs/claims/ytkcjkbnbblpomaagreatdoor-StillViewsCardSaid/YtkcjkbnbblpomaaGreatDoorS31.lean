/- Layer 7: views as they are shown, shown again; what is kept of a view that may be; in plain words. Layer 9, plain: of a view that may be nothing is erased, and its text is its own. Layer 9, plain: a short view's static rendering is short. Layer 9: the laws: the static rendering of a view, and its text. Layer 9: StillViews from the form's reading. -/
import Derived.Test.YtkcjkbnbblpomaaGreatDoorS30
import Derived.Test.YtkcjkbnbblpomaaGreatDoorS17
import Derived.Test.YtkcjkbnbblpomaaGreatDoorS23
import Derived.Test.YtkcjkbnbblpomaaGreatDoorS27
import Derived.Test.YtkcjkbnbblpomaaGreatDoorS28
import Derived.Test.YtkcjkbnbblpomaaGreatDoorS26
set_option linter.all false
namespace Go.Proofs.YtkcjkbnbblpomaaGreatDoor
open Go.RowKit

theorem Tree.ind {P : Tree → Prop} (h : ∀ (k : Int) (tag key text : ByteArray) (cl : List ByteArray) (al : List (ByteArray × ByteArray)) (sl : List (ByteArray × Int)) (o : Opt) (kids : List Tree), (∀ t ∈ kids, P t) → P (.mk k tag key text cl al sl o kids)) (t : Tree) : P t := by
  have : ∀ (n : Nat) (t : Tree), SizeOf.sizeOf t < n → P t := by
    intro n
    induction n with
    | zero => intro t h; omega
    | succ n ih =>
      intro t ht
      obtain ⟨k, tag, key, text, cl, al, sl, o, kids⟩ := t
      exact h _ _ _ _ _ _ _ _ _ fun u hu => ih u (by have := kid_lt (k := k) (tag := tag) (key := key) (text := text) (cl := cl) (at_ := al) (st := sl) (o := o) hu; omega)
  exact this _ t (Nat.lt_succ_self _)

open Classical in
theorem cln_sub (l : List ByteArray) : ∀ c ∈ clnC l, c ∈ l := by
  have : ∀ r : List ByteArray, ∀ c ∈ clnC r.reverse, c ∈ r.reverse := by
    intro r
    induction r with
    | nil => simp [clnC]
    | cons x r ih =>
      intro c hc
      rw [List.reverse_cons, clnC_snoc] at hc
      rw [List.reverse_cons]
      unfold addC at hc
      split at hc
      · exact List.mem_append_left _ (ih c hc)
      · rcases List.mem_append.1 hc with h | h
        · exact List.mem_append_left _ (ih c h)
        · exact List.mem_append_right _ h
  have := this l.reverse
  rwa [List.reverse_reverse] at this
theorem mrg_mem {P : Tree → Prop} (hp : ∀ t x, P t → P (t.plus x)) (l : List Tree) (h : ∀ t ∈ l, P t) : ∀ t ∈ mrg l, P t := by
  have : ∀ r : List Tree, (∀ t ∈ r, P t) → ∀ t ∈ mrg r.reverse, P t := by
    intro r
    induction r with
    | nil => intro _ t ht; simp [mrg] at ht
    | cons u r ih =>
      intro hr t ht
      have ih := ih fun t ht => hr t (by simp [ht])
      rw [List.reverse_cons, mrg_snoc] at ht
      unfold mrgS at ht
      split at ht
      · rename_i u0 hu0
        split at ht
        · rcases List.mem_append.1 ht with h | h
          · exact ih t ((List.dropLast_sublist _).subset h)
          · rw [List.mem_singleton] at h
            subst h
            exact hp _ _ (ih u0 (List.mem_of_getLast? hu0))
        · rcases List.mem_append.1 ht with h | h
          · exact ih t h
          · rw [List.mem_singleton] at h; subst h; exact hr t (by simp)
      · rcases List.mem_append.1 ht with h | h
        · exact ih t h
        · rw [List.mem_singleton] at h; subst h; exact hr t (by simp)
  have := this l.reverse (fun t ht => h t (by simpa using ht))
  rwa [List.reverse_reverse] at this
theorem nrmL_mem2 : ∀ {ts : List Tree} {u : Tree}, u ∈ nrmL ts → ∃ t ∈ ts, ¬ t.void ∧ u = nrm t
  | t :: ts, u, h => by
    rw [nrmL] at h
    split at h
    · obtain ⟨x, hx, e⟩ := nrmL_mem2 h
      exact ⟨x, by simp [hx], e⟩
    · rename_i hv
      rcases List.mem_cons.1 h with h | h
      · exact ⟨t, by simp, hv, h⟩
      · obtain ⟨x, hx, e⟩ := nrmL_mem2 h
        exact ⟨x, by simp [hx], e⟩
theorem cnt_plus (t : Tree) (x : ByteArray) : cnt (t.plus x) = cnt t := by cases t; simp only [Tree.plus, cnt]
theorem dep_plus (t : Tree) (x : ByteArray) : dep (t.plus x) = dep t := by cases t; simp only [Tree.plus, dep]
theorem mrg_cnt (l : List Tree) : cntL (mrg l) ≤ cntL l ∧ depL (mrg l) ≤ depL l := by
  have : ∀ r : List Tree, cntL (mrg r.reverse) ≤ cntL r.reverse ∧ depL (mrg r.reverse) ≤ depL r.reverse := by
    intro r
    induction r with
    | nil => simp [mrg]
    | cons t r ih =>
      rw [List.reverse_cons, mrg_snoc, cntL_snoc, depL_snoc]
      have ht := cnt_pos t
      unfold mrgS
      split
      · rename_i u hu
        have e := last_split hu
        have e1 := congrArg cntL e
        have e2 := congrArg depL e
        rw [cntL_snoc] at e1
        rw [depL_snoc] at e2
        split
        · rw [cntL_snoc, depL_snoc, cnt_plus, dep_plus]; omega
        · rw [cntL_snoc, depL_snoc]; omega
      · rw [cntL_snoc, depL_snoc]; omega
  have := this l.reverse
  rwa [List.reverse_reverse] at this
theorem nrmL_cnt : ∀ (l : List Tree), (∀ t ∈ l, cnt (nrm t) ≤ cnt t ∧ dep (nrm t) ≤ dep t) → cntL (nrmL l) ≤ cntL l ∧ depL (nrmL l) ≤ depL l
  | [], _ => by simp [nrmL]
  | t :: ts, h => by
    have ih := nrmL_cnt ts fun u hu => h u (by simp [hu])
    have ht := h t (by simp)
    rw [nrmL]
    split
    · simp only [cntL, depL]; omega
    · simp only [cntL, depL]; omega
theorem nrm_cnt (t : Tree) : cnt (nrm t) ≤ cnt t ∧ dep (nrm t) ≤ dep t := by
  induction t using Tree.ind with
  | h k tag key text cl al sl o kids ih =>
    have h1 := mrg_cnt (nrmL kids)
    have h2 := nrmL_cnt kids ih
    simp only [nrm, cnt, dep]
    omega

def lookS (s : ByteArray) : Bool := s.data.toList.all priB
theorem txt_look (s : ByteArray) : txtS s = (decide (s.size ≤ 64) && lookS s) := rfl
theorem look_app (a b : ByteArray) : lookS (a ++ b) = (lookS a && lookS b) := by
  unfold lookS
  rw [ByteArray.data_append, Array.toList_append, List.all_append]
def mayR (k : Int) (tag key text : ByteArray) (cl : List ByteArray) (al : List PrS) (sl : List PrI) (o : Opt) (kids : List Tree) : Bool :=
  if k = 1 then bareB tag key cl al sl o kids && lookS text
  else if k = 2 ∨ k = 3 ∨ k = 4 then decide (text = ⟨#[]⟩) && nameS tag && (namesL cl al sl).all nameS && (decide (key = ⟨#[]⟩) || keyS key) && valB al sl && optsB o k && keptB k kids
  else false
theorem mayB_R {k : Int} {tag key text : ByteArray} {cl : List ByteArray} {al : List PrS} {sl : List PrI} {o : Opt} {kids : List Tree} : mayB k tag key text cl al sl o kids = true ↔ mayR k tag key text cl al sl o kids = true ∧ text.size ≤ 64 := by
  unfold mayB mayR
  split
  · rw [txt_look]
    simp only [Bool.and_eq_true, decide_eq_true_eq]
    constructor
    · rintro ⟨h1, h2, h3⟩; exact ⟨⟨h1, h3⟩, h2⟩
    · rintro ⟨⟨h1, h3⟩, h2⟩; exact ⟨h1, h2, h3⟩
  · split
    · constructor
      · intro h
        refine ⟨h, ?_⟩
        simp only [Bool.and_eq_true, decide_eq_true_eq] at h
        have : text = ⟨#[]⟩ := h.1.1.1.1.1.1
        subst this
        decide
      · exact fun h => h.1
    · simp
inductive OkR : Tree → Prop
  | mk {k : Int} {tag key text : ByteArray} {cl : List ByteArray} {al : List PrS} {sl : List PrI} {o : Opt} {kids : List Tree}
    (h1 : mayR k tag key text cl al sl o kids = true) (h2 : (namesL cl al sl).any rsvS = false) (h3 : twcB (kids.map Tree.key) = false) (h4 : ∀ t ∈ kids, OkR t) : OkR (.mk k tag key text cl al sl o kids)
mutual
def shortT : Tree → Bool
  | .mk _ _ _ text _ _ _ _ kids => shortL kids && decide (text.size ≤ 64)
def shortL : List Tree → Bool
  | [] => true
  | t :: ts => shortT t && shortL ts
end
theorem shortL_iff : ∀ ts, shortL ts = true ↔ ∀ t ∈ ts, shortT t = true
  | [] => by simp [shortL]
  | t :: ts => by rw [shortL, Bool.and_eq_true, shortL_iff ts]; simp
theorem chk_okR (t : Tree) : ∀ (deep depth left : Int), (chkT t deep depth left).1 = 0 → OkR t ∧ deep + dep t - 1 ≤ depth ∧ (cnt t : Int) ≤ left ∧ (chkT t deep depth left).2 = left - cnt t := by
  induction t using Tree.ind with
  | h k tag key text cl al sl o kids ih =>
    intro deep depth left h
    rw [chkT] at h ⊢
    split at h
    · cases h
    · split at h
      · cases h
      · split at h
        · cases h
        · split at h
          · cases h
          · split at h
            · cases h
            · rename_i c1 c2 c3 c4 c5
              rw [if_neg c1, if_neg c2, if_neg c3, if_neg c4, if_neg c5]
              have hL : ∀ (ts : List Tree), (∀ t ∈ ts, t ∈ kids) → ∀ left : Int, 0 ≤ left → (chkL ts (deep + 1) depth left).1 = 0 → (∀ t ∈ ts, OkR t) ∧ (ts ≠ [] → deep + 1 + depL ts - 1 ≤ depth) ∧ (cntL ts : Int) ≤ left ∧ (chkL ts (deep + 1) depth left).2 = left - cntL ts := by
                intro ts
                induction ts with
                | nil => intro _ left hl _; simp [chkL, cntL, hl]
                | cons u us ihs =>
                  intro hm left hl h
                  rw [chkL] at h ⊢
                  by_cases hc : (chkT u (deep + 1) depth left).1 = 0
                  · rw [if_pos hc] at h ⊢
                    obtain ⟨a1, a2, a3, a4⟩ := ih u (hm u (by simp)) _ _ _ hc
                    have hu := cnt_pos u
                    rw [a4] at h ⊢
                    obtain ⟨b1, b2, b3, b4⟩ := ihs (fun t ht => hm t (by simp [ht])) _ (by omega) h
                    refine ⟨fun t ht => ?_, fun _ => ?_, ?_, ?_⟩
                    · rcases List.mem_cons.1 ht with rfl | ht
                      · exact a1
                      · exact b1 t ht
                    · simp only [depL]
                      cases us with
                      | nil => simp only [depL]; omega
                      | cons x xs => have := b2 (by simp); omega
                    · simp only [cntL]; omega
                    · rw [b4]; simp only [cntL]; omega
                  · rw [if_neg hc] at h
                    exact absurd h hc
              obtain ⟨b1, b2, b3, b4⟩ := hL kids (fun _ h => h) _ (by omega) h
              refine ⟨.mk ((mayB_R.1 (by simpa using c3)).1) (by simpa using c4) (by simpa using c5) b1, ?_, ?_, ?_⟩
              · simp only [dep]
                cases kids with
                | nil => simp only [depL]; omega
                | cons x xs => have := b2 (by simp); omega
              · simp only [cnt]; omega
              · rw [b4]; simp only [cnt]; omega
def kk (t : Tree) : Int × ByteArray := (t.kind, t.key)
theorem plus_key (t : Tree) (x : ByteArray) : (t.plus x).key = t.key := by cases t; rfl
theorem nrm_key (t : Tree) : (nrm t).key = t.key := by cases t; simp [nrm, Tree.key]
theorem kk_plus (t : Tree) (x : ByteArray) : kk (t.plus x) = kk t := by unfold kk; rw [plus_kind, plus_key]
theorem kk_nrm (t : Tree) : kk (nrm t) = kk t := by unfold kk; rw [nrm_kind, nrm_key]
theorem mrg_kk (l : List Tree) : ((mrg l).map kk).Sublist (l.map kk) := by
  have : ∀ r : List Tree, ((mrg r.reverse).map kk).Sublist (r.reverse.map kk) := by
    intro r
    induction r with
    | nil => exact List.Sublist.refl _
    | cons t r ih =>
      rw [List.reverse_cons, mrg_snoc, List.map_append]
      have key : ∀ m : List Tree, (m.map kk).Sublist (r.reverse.map kk) → ((m ++ [t]).map kk).Sublist (r.reverse.map kk ++ [t].map kk) := by
        intro m hm
        rw [List.map_append]
        exact hm.append (List.Sublist.refl _)
      unfold mrgS
      split
      · rename_i u hu
        split
        · have e := congrArg (List.map kk) (last_split hu)
          rw [List.map_append] at e
          rw [List.map_append]
          have e2 : [u.plus t.text].map kk = [u].map kk := by simp [kk_plus]
          rw [e2, ← e]
          exact ih.trans (List.sublist_append_left _ _)
        · exact key _ ih
      · exact key _ ih
  have := this l.reverse
  rwa [List.reverse_reverse] at this
theorem nrmL_kk : ∀ (l : List Tree), ((nrmL l).map kk).Sublist (l.map kk)
  | [] => by simp [nrmL]
  | t :: ts => by
    rw [nrmL, List.map_cons]
    split
    · exact (nrmL_kk ts).trans (List.sublist_cons_self _ _)
    · rw [List.map_cons, kk_nrm]
      exact (nrmL_kk ts).cons_cons _
theorem shown_kk (l : List Tree) : ((mrg (nrmL l)).map kk).Sublist (l.map kk) := (mrg_kk _).trans (nrmL_kk _)
theorem twc_sub {a b : List ByteArray} (h : a.Sublist b) (hb : twcB b = false) : twcB a = false := by
  unfold twcB at *
  rw [List.any_eq_false] at *
  intro c hc
  have hb := hb c (h.subset hc)
  simp only [decide_eq_true_eq, not_and, Nat.not_lt] at hb ⊢
  intro h0
  exact Nat.le_trans (List.Sublist.countP_le h) (hb h0)
theorem kidB_kk (t : Tree) : kidB t = (fun x : Int × ByteArray => decide (x.1 = 2 ∧ x.2 ≠ ⟨#[]⟩)) (kk t) := rfl
theorem kept_sub {k : Int} {a b : List Tree} (h : (a.map kk).Sublist (b.map kk)) (hb : keptB k b = true) : keptB k a = true := by
  unfold keptB at *
  simp only [Bool.or_eq_true, Bool.and_eq_true, decide_eq_true_eq, List.all_eq_true] at *
  have hl : a.length ≤ b.length := by simpa using h.length_le
  rcases hb with hb | ⟨hb1, hb2⟩
  · exact .inl hb
  · refine .inr ⟨fun t ht => ?_, ?_⟩
    · have hm : kk t ∈ b.map kk := h.subset (List.mem_map.2 ⟨t, ht, rfl⟩)
      obtain ⟨u, hu, e⟩ := List.mem_map.1 hm
      rw [kidB_kk, ← e, ← kidB_kk]
      exact hb1 u hu
    · rcases hb2 with h | h
      · exact .inl h
      · exact .inr (by omega)
theorem snap_sub {κ α : Type} [Lin κ] [DecidableEq κ] (key : α → κ) (l : List α) : ∀ x ∈ snapF key l, x ∈ l := fun _ hx => last_mem key ((snap_last key).1 hx)
theorem names_sub {cl : List ByteArray} {al : List PrS} {sl : List PrI} : ∀ c ∈ namesL (clnC cl) (snapF nmS al) (snapF nmI sl), c ∈ namesL cl al sl := by
  intro c hc
  unfold namesL at *
  rcases List.mem_append.1 hc with h | h
  · rcases List.mem_append.1 h with h | h
    · exact List.mem_append_left _ (List.mem_append_left _ (cln_sub _ c h))
    · obtain ⟨x, hx, rfl⟩ := List.mem_map.1 h
      exact List.mem_append_left _ (List.mem_append_right _ (List.mem_map.2 ⟨x, snap_sub nmS _ x hx, rfl⟩))
  · obtain ⟨x, hx, rfl⟩ := List.mem_map.1 h
    exact List.mem_append_right _ (List.mem_map.2 ⟨x, snap_sub nmI _ x hx, rfl⟩)
theorem mayR_nrm {k : Int} {tag key text : ByteArray} {cl : List ByteArray} {al : List PrS} {sl : List PrI} {o : Opt} {kids : List Tree} (h : mayR k tag key text cl al sl o kids = true) :
    mayR k tag key text (clnC cl) (snapF nmS al) (snapF nmI sl) o (mrg (nrmL kids)) = true := by
  unfold mayR at *
  split at h
  · rename_i hk
    rw [if_pos hk]
    rw [Bool.and_eq_true] at h ⊢
    refine ⟨?_, h.2⟩
    have h1 := h.1
    unfold bareB at *
    simp only [decide_eq_true_eq] at *
    have e1 := clnC_le cl
    have e2 := snap_len nmS al
    have e3 := snap_len nmI sl
    have e4 := mrg_len (nrmL kids)
    have e5 := nrmL_len kids
    exact ⟨h1.1, h1.2.1, by omega, h1.2.2.2⟩
  · rename_i hk
    rw [if_neg hk]
    split at h
    · rename_i hk2
      rw [if_pos hk2]
      simp only [Bool.and_eq_true] at h ⊢
      obtain ⟨⟨⟨⟨⟨⟨a1, a2⟩, a3⟩, a4⟩, a5⟩, a6⟩, a7⟩ := h
      refine ⟨⟨⟨⟨⟨⟨a1, a2⟩, ?_⟩, a4⟩, ?_⟩, a6⟩, kept_sub (shown_kk kids) a7⟩
      · rw [List.all_eq_true] at *
        exact fun c hc => a3 c (names_sub c hc)
      · unfold valB at *
        rw [Bool.and_eq_true, List.all_eq_true, List.all_eq_true] at *
        exact ⟨fun x hx => a5.1 x (snap_sub nmS _ x hx), fun x hx => a5.2 x (snap_sub nmI _ x hx)⟩
    · cases h
theorem key_kk (l : List Tree) : l.map Tree.key = (l.map kk).map (·.2) := by rw [List.map_map]; rfl
theorem OkR.plus {t u : Tree} (h : OkR t) (hu : OkR u) (ht : t.kind = 1) (hk : u.kind = 1) : OkR (u.plus t.text) := by
  cases h with
  | @mk k tag key text cl al sl o kids h1 h2 h3 h4 =>
    cases hu with
    | @mk k' tag' key' text' cl' al' sl' o' kids' g1 g2 g3 g4 =>
      have e1 : k = 1 := ht
      have e2 : k' = 1 := hk
      subst e1 e2
      refine .mk ?_ g2 g3 g4
      unfold mayR at *
      rw [if_pos rfl, Bool.and_eq_true] at *
      exact ⟨g1.1, by rw [look_app, g1.2]; exact h1.2⟩
theorem mrg_okR (l : List Tree) (h : ∀ t ∈ l, OkR t) : ∀ t ∈ mrg l, OkR t := by
  have : ∀ r : List Tree, (∀ t ∈ r, OkR t) → ∀ t ∈ mrg r.reverse, OkR t := by
    intro r
    induction r with
    | nil => intro _ t ht; simp [mrg] at ht
    | cons u r ih =>
      intro hr t ht
      have ih := ih fun t ht => hr t (by simp [ht])
      rw [List.reverse_cons, mrg_snoc] at ht
      unfold mrgS at ht
      split at ht
      · rename_i u0 hu0
        split at ht
        · rename_i hc
          rcases List.mem_append.1 ht with h | h
          · exact ih t ((List.dropLast_sublist _).subset h)
          · rw [List.mem_singleton] at h
            subst h
            exact (hr u (by simp)).plus (ih u0 (List.mem_of_getLast? hu0)) hc.1 hc.2
        · rcases List.mem_append.1 ht with h | h
          · exact ih t h
          · rw [List.mem_singleton] at h; subst h; exact hr t (by simp)
      · rcases List.mem_append.1 ht with h | h
        · exact ih t h
        · rw [List.mem_singleton] at h; subst h; exact hr t (by simp)
  have := this l.reverse (fun t ht => h t (by simpa using ht))
  rwa [List.reverse_reverse] at this
theorem OkR.nrm {t : Tree} (h : OkR t) : OkR (nrm t) := by
  induction t using Tree.ind with
  | h k tag key text cl al sl o kids ih =>
    cases h with
    | mk h1 h2 h3 h4 =>
      rw [Proofs.YtkcjkbnbblpomaaGreatDoor.nrm]
      refine .mk (mayR_nrm h1) ?_ ?_ (mrg_okR _ fun u hu => ?_)
      · rw [List.any_eq_false] at *
        exact fun c hc => h2 c (names_sub c hc)
      · refine twc_sub ?_ h3
        rw [key_kk, key_kk]
        exact (shown_kk kids).map _
      · obtain ⟨t, ht, rfl⟩ := nrmL_mem hu
        exact ih t ht (h4 t ht)
theorem Siz.mono {X Y : Nat} {t : Tree} (h : Siz X t) (hXY : X ≤ Y) : Siz Y t := by
  induction h with
  | mk h1 h2 h3 h4 h5 h6 _ ih => exact .mk (by omega) (by omega) (by omega) (fun c hc => by have := h4 c hc; omega) (fun x hx => by have := h5 x hx; omega) (fun x hx => by have := h6 x hx; omega) ih
end Go.Proofs.YtkcjkbnbblpomaaGreatDoor
namespace Go.Proofs.YtkcjkbnbblpomaaGreatDoor
open Go.RowKit

theorem stlL_mem {l : List Tree} {x : STree} (h : x ∈ stlL l) : ∃ t ∈ l, x = stl t := by
  rw [stlL_map, List.mem_map] at h
  obtain ⟨t, ht, e⟩ := h
  exact ⟨t, ht, e.symm⟩
theorem stl_fits {t : Tree} (h : Fits t) : SFits (stl t) := by
  induction h with
  | mk h1 h2 h3 h4 _ ih =>
    rw [stl]
    split
    · exact .mk (by simp) (by simp) (by simp) (by simp) (by simp)
    · refine .mk h1 h2 h3 (by rw [stlL_map, List.length_map]; exact h4) fun x hx => ?_
      obtain ⟨t, ht, rfl⟩ := stlL_mem hx
      exact ih t ht
theorem okR_vt {t : Tree} (h : OkR t) : VT (stl t) := by
  induction h with
  | mk h1 h2 h3 _ ih =>
    unfold mayR at h1
    rw [stl]
    split
    · rename_i hk
      rw [if_pos hk] at h1
      simp only [Bool.and_eq_true] at h1
      exact .mk (.inl ⟨rfl, h1.2, rfl, rfl, rfl, rfl, rfl⟩) (by simp)
    · rename_i hk
      rw [if_neg hk] at h1
      split at h1
      · simp only [Bool.and_eq_true, valB] at h1
        obtain ⟨⟨⟨⟨⟨⟨-, q2⟩, q3⟩, -⟩, q5, -⟩, -⟩, -⟩ := h1
        rw [List.all_eq_true] at q3 q5
        refine .mk (.inr ⟨rfl, rfl, name_plain q2, fun c hc => name_plain (q3 c (by simp [namesL, hc])), fun x hx => ⟨name_plain (q3 x.1 ?_), ?_⟩, fun x hx => q3 x.1 ?_⟩) fun x hx => ?_
        · unfold namesL
          simp only [List.mem_append, List.mem_map]
          exact .inl (.inr ⟨x, hx, rfl⟩)
        · have := q5 x hx
          unfold valS at this
          rw [Bool.and_eq_true] at this
          exact this.2
        · unfold namesL
          simp only [List.mem_append, List.mem_map]
          exact .inr ⟨x, hx, rfl⟩
        · obtain ⟨t, ht, rfl⟩ := stlL_mem hx
          exact ih t ht
      · cases h1
theorem mine_none {cl : List ByteArray} (h : ∀ c ∈ cl, rsvS c = false) : mineC cl = cl := by
  unfold mineC
  rw [List.filter_eq_self]
  intro c hc
  rw [h c hc]; rfl
theorem mineS_none {al : List PrS} (h : ∀ x ∈ al, rsvS x.1 = false) (hr : snapF nmS al = al) : mineS al = al := by
  unfold mineS
  rw [hr, List.filter_eq_self]
  intro c hc
  rw [h c hc]; rfl
theorem mineI_none {al : List PrI} (h : ∀ x ∈ al, rsvS x.1 = false) (hr : snapF nmI al = al) : mineI al = al := by
  unfold mineI
  rw [hr, List.filter_eq_self]
  intro c hc
  rw [h c hc]; rfl
theorem okR_er {t : Tree} (h : OkR t) : SRis (stl t) → erT (stl t) = stl t ∧ (stl t).ghost = false := by
  induction h with
  | @mk k tag key text cl al sl o kids h1 h2 h3 _ ih =>
    rw [stl]
    split
    · intro _
      refine ⟨?_, rfl⟩
      rw [erT]
      simp [mineC, mineS, mineI, erL, snapF]
    · intro hs
      cases hs with
      | mk s1 s2 s3 =>
        rw [List.any_eq_false] at h2
        have hn : ∀ c, c ∈ namesL cl al sl → rsvS c = false := fun c hc => by simpa using h2 c hc
        have hA : ∀ x ∈ al, rsvS x.1 = false := fun x hx => hn x.1 (by
          unfold namesL
          simp only [List.mem_append, List.mem_map]
          exact .inl (.inr ⟨x, hx, rfl⟩))
        refine ⟨?_, ?_⟩
        · rw [erT, mine_none fun c hc => hn c (by simp [namesL, hc]), mineS_none hA s1, mineI_none (fun x hx => hn x.1 (by
            unfold namesL
            simp only [List.mem_append, List.mem_map]
            exact .inr ⟨x, hx, rfl⟩)) s2, erL_fix]
          intro x hx
          obtain ⟨t, ht, rfl⟩ := stlL_mem hx
          have := ih t ht (s3 _ hx)
          exact ⟨this.2, this.1⟩
        · show ghB _ = false
          unfold ghB
          rw [List.any_eq_false]
          intro x hx
          simp only [decide_eq_true_eq]
          intro e
          have := hA x hx
          rw [e, gh_rsv] at this
          cases this
theorem mrg_ris (l : List Tree) (h : ∀ t ∈ l, SRis (stl t)) : ∀ t ∈ mrg l, SRis (stl t) := mrg_mem (P := fun t => SRis (stl t)) (fun t x ht => by
  cases t with
  | mk k tag key text cl al sl o kids =>
    rw [Tree.plus]
    rw [stl] at ht ⊢
    split
    · exact .mk rfl rfl (by simp)
    · rename_i hk
      rw [if_neg hk] at ht
      exact ht) l h
theorem nrm_ris (t : Tree) : SRis (stl (nrm t)) := by
  induction t using Tree.ind with
  | h k tag key text cl al sl o kids ih =>
    rw [nrm, stl]
    split
    · exact .mk rfl rfl (by simp)
    · refine .mk (snap_snap nmS al) (snap_snap nmI sl) fun x hx => ?_
      obtain ⟨t, ht, rfl⟩ := stlL_mem hx
      refine mrg_ris (nrmL kids) (fun u hu => ?_) t ht
      obtain ⟨v, hv, -, rfl⟩ := nrmL_mem2 hu
      exact ih v hv
mutual
theorem stl_pre : ∀ (t : Tree), (preT (stl t)).length ≤ cnt t
  | .mk k tag key text cl al sl o kids => by
    have h := stlL_pre kids
    rw [stl, cnt]
    split
    · simp [preT, preL]
    · rw [preT, List.length_cons]; omega
theorem stlL_pre : ∀ (l : List Tree), (preL (stlL l)).length ≤ cntL l
  | [] => by simp [stlL, preL]
  | t :: ts => by
    have h1 := stl_pre t
    have h2 := stlL_pre ts
    rw [stlL, preL, List.length_append, cntL]; omega
end
theorem preL_cnt : ∀ (l : List Tree), (∀ t ∈ l, (preT (stl t)).length = cnt t) → (preL (stlL l)).length = cntL l
  | [], _ => by simp [stlL, preL, cntL]
  | t :: ts, h => by rw [stlL, preL, List.length_append, cntL, h t (by simp), preL_cnt ts fun u hu => h u (by simp [hu])]
theorem okR_pre {t : Tree} (h : OkR t) : (preT (stl t)).length = cnt t := by
  induction h with
  | @mk k tag key text cl al sl o kids h1 _ _ _ ih =>
    rw [stl, cnt]
    split
    · rename_i hk
      unfold mayR at h1
      rw [if_pos hk] at h1
      simp only [Bool.and_eq_true, bareB, decide_eq_true_eq] at h1
      obtain ⟨⟨-, -, h2, -⟩, -⟩ := h1
      have h3 : kids = [] := List.eq_nil_of_length_eq_zero (by omega)
      subst h3
      simp [preT, preL, cntL]
    · rw [preT, List.length_cons, preL_cnt _ ih]
end Go.Proofs.YtkcjkbnbblpomaaGreatDoor
namespace Go.Proofs.YtkcjkbnbblpomaaGreatDoor
open Go.RowKit

inductive Mid (X : Nat) : Tree → Prop
  | mk {k : Int} {tag key text : ByteArray} {cl : List ByteArray} {al : List (ByteArray × ByteArray)} {sl : List (ByteArray × Int)} {o : Opt} {kids : List Tree}
    (h1 : tag.size ≤ 20) (h2 : text.size ≤ X) (h3 : cl.length ≤ 4) (h4 : ∀ c ∈ cl, c.size ≤ 20) (h5 : al.length ≤ 4) (h6 : ∀ x ∈ al, x.1.size ≤ 20 ∧ x.2.size ≤ 40) (h7 : sl.length ≤ 4) (h8 : ∀ x ∈ sl, x.1.size ≤ 20 ∧ in64 x.2) (hk : ∀ t ∈ kids, Mid X t) : Mid X (.mk k tag key text cl al sl o kids)
theorem Mid.plus {X : Nat} {t : Tree} {x : ByteArray} (h : Mid X t) (hx : (t.plus x).text.size ≤ X) : Mid X (t.plus x) := by
  cases h with
  | mk h1 h2 h3 h4 h5 h6 h7 h8 hk => exact .mk h1 hx h3 h4 h5 h6 h7 h8 hk
theorem mrg_mid {X : Nat} (l : List Tree) (hl : ∀ t ∈ l, Mid X t) (hx : txtL l ≤ X) : ∀ u ∈ mrg l, Mid X u := by
  have : ∀ r : List Tree, (∀ t ∈ r, Mid X t) → txtL r.reverse ≤ X → ∀ u ∈ mrg r.reverse, Mid X u := by
    intro r
    induction r with
    | nil => intro _ _ u hu; simp [mrg] at hu
    | cons t r ih =>
      intro hr hx u hu
      have hs := mrgS_txt (mrg r.reverse) t
      have hT := mrg_txt r.reverse
      rw [List.reverse_cons, txtL_snoc] at hx
      have ih := ih (fun t ht => hr t (by simp [ht])) (by omega)
      have ht := hr t (by simp)
      rw [List.reverse_cons, mrg_snoc] at hu
      have hm := txtL_mem hu
      unfold mrgS at hu hs hm
      split at hu
      · rename_i u0 hu0
        have hu1 : u0 ∈ mrg r.reverse := by rw [last_split hu0]; simp
        split at hu
        · rename_i hc
          rcases List.mem_append.1 hu with h | h
          · exact ih u (by rw [last_split hu0]; simp [h])
          · rw [List.mem_singleton] at h
            subst h
            simp only [hu0, if_pos hc] at hm hs
            exact (ih u0 hu1).plus (by omega)
        · rcases List.mem_append.1 hu with h | h
          · exact ih u h
          · rw [List.mem_singleton] at h; subst h; exact ht
      · rcases List.mem_append.1 hu with h | h
        · exact ih u h
        · rw [List.mem_singleton] at h; subst h; exact ht
  have h := this l.reverse (by simpa using hl) (by simpa using hx)
  simpa using h
theorem Small.mid {t : Tree} (h : Small t) : cnt t ≤ 25 → Mid 1800 (nrm t) := by
  induction h with
  | @mk k tag key text cl al sl o kids h hk ih =>
    intro hc
    rw [cnt] at hc
    have hkl := cntL_len kids
    have hfit : ∀ t ∈ kids, Fit 70 t := fun t ht => (hk t ht).fit (by have := cntL_mem ht; omega)
    obtain ⟨-, b1, -, b2, b3, b4, b5, b6, b7, b8, -⟩ := h
    rw [Proofs.YtkcjkbnbblpomaaGreatDoor.nrm]
    have ht := nrmL_txt kids hfit
    have hn1 := snap_len nmS al
    have hn2 := snap_len nmI sl
    have hn3 := clnC_le cl
    refine .mk b1 (by omega) (by omega) (fun c hc => b4 c (cln_sub _ c hc)) (by omega) (fun x hx => b6 x (snap_sub nmS _ x hx)) (by omega) (fun x hx => b8 x (snap_sub nmI _ x hx)) (mrg_mid _ (fun u hu => ?_) (by omega))
    obtain ⟨t, ht, rfl⟩ := nrmL_mem hu
    exact ih t ht (by have := cntL_mem ht; omega)
theorem Mid.ssm {t : Tree} (h : Mid 1800 t) : SSm (stl t) := by
  induction h with
  | mk h1 h2 h3 h4 h5 h6 h7 h8 _ ih =>
    have i0 : i64P 0 := by unfold i64P; omega
    rw [stl]
    split
    · exact .mk i0 (by decide) (by omega) (by simp) (by simp) (by simp) (by simp) (by simp) (by simp) (by simp)
    · refine .mk i0 h1 (by decide) h3 h4 h5 h6 h7 (fun x hx => ?_) fun x hx => ?_
      · have := h8 x hx
        exact ⟨this.1, by unfold i64P; unfold in64 at this; omega⟩
      · obtain ⟨t, ht, rfl⟩ := stlL_mem hx
        exact ih t ht
mutual
theorem scnt_pre : ∀ (t : STree), scnt t = (preT t).length
  | .mk id k tag text cl al sl kids => by rw [scnt, preT, List.length_cons, scntL_pre kids]
theorem scntL_pre : ∀ (l : List STree), scntL l = (preL l).length
  | [] => rfl
  | t :: ts => by rw [scntL, preL, List.length_append, scnt_pre t, scntL_pre ts]
end
theorem stl_small {t : Tree} (h : Small t) (hc : cnt t ≤ 25) : SSm (stl (nrm t)) ∧ scnt (stl (nrm t)) ≤ 25 ∧ (preT (stl (nrm t))).length ≤ 25 := by
  have h1 := stl_pre (nrm t)
  have h2 := (nrm_cnt t).1
  exact ⟨(h.mid hc).ssm, by rw [scnt_pre]; omega, by omega⟩
end Go.Proofs.YtkcjkbnbblpomaaGreatDoor
namespace Go.Proofs.YtkcjkbnbblpomaaGreatDoor
open Go.RowKit
set_option maxRecDepth 100000
attribute [local irreducible] Go.Code.wpIn Go.wpListIn Go.Calls Gives Go.Exit.then Go.Exit.inBlock Done ObxE

set_option maxHeartbeats 8000000 in
theorem stillviews_any (F0 : List FlH) (v0 : Value) (w0 : World) (hv0 : SlT F0 v0 w0) (hR0 : ∀ h ∈ F0, FlR w0 h) (ht : TabW w0) : Calls Tryz.prog 3 #[v0] w0 (Ret fun v w => v = .bool true ∧ St w0 [] w) := by
  refine enter Tryz.func3 rfl Tryz.ntmps3 rfl (fun a hk => ?_); have hS := St.refl w0
  (repeat' (first | (show wpListIn _ _ _ _ _ (_ :: _) _ _; first | (refine wx1 ?_; clear hk a; intro a hk) | (refine wx2 ?_ ?_ <;> (intro hp; clear hk a; intro a hk)) | (refine wx3 ?_; clear hk hS a; intro w b hS a hk) | (refine wx4 ?_; clear hk hS a; intro w hS a hk) | (refine wx5 ?_; clear hk hS a; intro w v hS a hk) | fail) | refine wx0 ?_ | (refine s_end hk ?_; clear hk a; intro a hk) | fail))
  refine sg hk (g_callO hk (hf := by kernel_rfl) (hc := awake09_any _ (ht.mono hS.below)) (h := ?_)); clear hk a; rintro _ w ⟨rfl, hS1⟩ a hk; replace hS := hS.call0 hS1; clear hS1
  (repeat' (first | (show wpListIn _ _ _ _ _ (_ :: _) _ _; first | (refine wx1 ?_; clear hk a; intro a hk) | (refine wx2 ?_ ?_ <;> (intro hp; clear hk a; intro a hk)) | (refine wx3 ?_; clear hk hS a; intro w b hS a hk) | (refine wx4 ?_; clear hk hS a; intro w hS a hk) | (refine wx5 ?_; clear hk hS a; intro w v hS a hk) | fail) | refine wx0 ?_ | (refine s_end hk ?_; clear hk a; intro a hk) | fail))
  have hw0 : Frz w0 w0 := Frz.refl _
  have hv0' := hv0
  refine sg hk (g_callO hk (hf := by kernel_rfl) (hc := tree07_any F0 v0 25 (by omega) (by omega) _ (hS.rdT hv0') (fun h hh => (hR0 h hh).frz (hw0.trans hS.frz))) (h := ?_)); clear hk a; rintro vr w ⟨t0, hs0, hc0, hS1⟩ a hk; replace hS := hS.call hS1; clear hS1
  rw [List.cons_append] at hS
  obtain ⟨hd0, rfl, hS1⟩ := St.tree hS .here
  clear hS
  have hS := hS1
  clear hS1
  have hf0 := (hs0.fit (by omega)).fits
  obtain ⟨k0, tag0, key0, text0, ⟨xa1, xa2, xa3⟩, ⟨xb1, xb2, xb3⟩, ⟨xc1, xc2, xc3⟩, ⟨e0, lv0, m0, d0, p0, q0⟩, ⟨xd1, xd2, xd3⟩⟩ := hd0
  have hfit := (hs0.fit (by omega)).mono (Y := 1000000) (by omega)
  have hfn := (hs0.fit (by omega)).nrm.fits
  obtain ⟨hm1, hm2, hm3⟩ := stl_small hs0 hc0
  have hsf : SFits (stl (nrm t0)) := stl_fits hfn
  generalize hTT : stl (nrm t0) = T at *
  obtain ⟨g1, hxg1, hrg1, hS1⟩ := hS.freeze (A := treeR t0 (k0, tag0, key0, text0, ⟨xa1, xa2, xa3⟩, ⟨xb1, xb2, xb3⟩, ⟨xc1, xc2, xc3⟩, (e0, lv0, m0, d0, p0, q0), ⟨xd1, xd2, xd3⟩)) (by (repeat (first | exact At.here | apply At.there)))
  clear hS
  have hS := hS1
  clear hS1
  have hxg1 : Frz w0 g1 := hxg1.1
  have hT1 : TrR g1 t0 (k0, tag0, key0, text0, ⟨xa1, xa2, xa3⟩, ⟨xb1, xb2, xb3⟩, ⟨xc1, xc2, xc3⟩, (e0, lv0, m0, d0, p0, q0), ⟨xd1, xd2, xd3⟩) := rdH.rd (TrR.stays _ _) hrg1
  replace hS : St ⟨g1, w0⟩ _ w := hS
  (repeat' (first | (show wpListIn _ _ _ _ _ (_ :: _) _ _; first | (refine wx1 ?_; clear hk a; intro a hk) | (refine wx2 ?_ ?_ <;> (intro hp; clear hk a; intro a hk)) | (refine wx3 ?_; clear hk hS a; intro w b hS a hk) | (refine wx4 ?_; clear hk hS a; intro w hS a hk) | (refine wx5 ?_; clear hk hS a; intro w v hS a hk) | fail) | refine wx0 ?_ | (refine s_end hk ?_; clear hk a; intro a hk) | fail))
  refine wp_drawn 7 mixed (by kernel_rfl) hk hS ?_; clear hk hS a
  (repeat' (first | (show ObxE _ _ _ _ _ _ _ _ _ (_ :: _) _ _ _; first | refine ox1 ?_ | (refine ox2 ?_ ?_ <;> intro hp) | fail) | fail))
  refine' obe_res (fun us a w hk hd hS => ?_) ?_; rotate_left; focus (have hk := Kn.vw hk (by repeat (first | exact VW.nil | apply VW.val rfl | apply VW.base rfl rfl | apply VW.res rfl | apply VW.upd rfl | apply VW.cpy rfl | apply VW.dep rfl | apply VW.fn rfl | apply VW.lnd rfl | apply VW.tak rfl)); exact g_callO hk (hf := by kernel_rfl) (hc := own07_any (SizeOf.sizeOf t0 + 1) t0 (k0, tag0, key0, text0, ⟨xa1, xa2, xa3⟩, ⟨xb1, xb2, xb3⟩, ⟨xc1, xc2, xc3⟩, (e0, lv0, m0, d0, p0, q0), ⟨xd1, xd2, xd3⟩) _ (by omega) hf0 (hS.rdTr hT1)) (h := fun _ _ h => h))
  refine' obe_res (V := streeH T) (fun us a w hk hd hS => ?_) ?_
  · have hk := Kn.vw hk (by repeat (first | exact VW.nil | apply VW.val rfl | apply VW.base rfl rfl | apply VW.res rfl | apply VW.upd rfl | apply VW.cpy rfl | apply VW.dep rfl | apply VW.fn rfl | apply VW.lnd rfl | apply VW.tak rfl))
    obtain ⟨hx, ex, hrx⟩ := treeH.rd hd.1
    simp only [Nat.zero_add, Nat.reduceAdd] at hk ex
    rw [ex] at hk
    exact g_callO hk (hf := by kernel_rfl) (hc := (show Calls _ _ _ _ (Ret fun v w' => St w [streeH T v] w') from hTT ▸ of9_any t0 hx _ hfit hfn hrx)) (h := fun _ _ h => h)
  (repeat' (first | (show ObxE _ _ _ _ _ _ _ _ _ (_ :: _) _ _ _; first | refine ox1 ?_ | (refine ox2 ?_ ?_ <;> intro hp) | fail) | fail))
  refine' obe_res (fun us a w hk hd hS => ?_) ?_; rotate_left; focus (have hk := Kn.vw hk (by repeat (first | exact VW.nil | apply VW.val rfl | apply VW.base rfl rfl | apply VW.res rfl | apply VW.upd rfl | apply VW.cpy rfl | apply VW.dep rfl | apply VW.fn rfl | apply VW.lnd rfl | apply VW.tak rfl)); exact g_callO hk (hf := by kernel_rfl) (hc := (show Calls _ _ _ _ (Ret fun v w' => St w [streeH T v] w') from hTT ▸ rOf9_any t0 (k0, tag0, key0, text0, ⟨xa1, xa2, xa3⟩, ⟨xb1, xb2, xb3⟩, ⟨xc1, xc2, xc3⟩, (e0, lv0, m0, d0, p0, q0), ⟨xd1, xd2, xd3⟩) _ hfit hfn (hS.rdTr hT1))) (h := fun _ _ h => h))
  refine' obe_res (fun us a w hk hd hS => ?_) ?_; rotate_left; focus (have hk := Kn.vw hk (by repeat (first | exact VW.nil | apply VW.val rfl | apply VW.base rfl rfl | apply VW.res rfl | apply VW.upd rfl | apply VW.cpy rfl | apply VW.dep rfl | apply VW.fn rfl | apply VW.lnd rfl | apply VW.tak rfl)); exact v_alloc hk (oT rfl))
  refine' obe_res (fun us a w hk hd hS => ?_) ?_; rotate_left; focus (have hk := Kn.vw hk (by repeat (first | exact VW.nil | apply VW.val rfl | apply VW.base rfl rfl | apply VW.res rfl | apply VW.upd rfl | apply VW.cpy rfl | apply VW.dep rfl | apply VW.fn rfl | apply VW.lnd rfl | apply VW.tak rfl)); exact v_alloc hk (oT rfl))
  refine obe_nil ⟨rfl, ?_⟩; intro us a w hk hS
  simp only [resE, List.cons_append, List.nil_append, Nat.zero_add, Nat.reduceAdd] at hS
  obtain ⟨b4, hb4, hS1⟩ := hS.ptv (by (repeat (first | exact At.here | apply At.there))); replace hS := hS1; clear hS1
  obtain ⟨b5, hb5, hS1⟩ := hS.ptv (by (repeat (first | exact At.here | apply At.there))); replace hS := hS1; clear hS1
  replace hk := Kn.kp [12, 14, 4, 5] hk
  simp only [HV.of, List.map, Nat.zero_add, Nat.reduceAdd] at hk
  generalize us 2 = v12 at hS hk
  generalize us 4 = v14 at hS hk
  obtain ⟨hx, rfl, hS1⟩ := St.stree (v := v12) (t := T) hS (by (repeat (first | exact At.here | apply At.there)))
  clear hS
  have hS := hS1
  clear hS1
  obtain ⟨hy, rfl, hS1⟩ := St.stree (v := v14) (t := T) hS (by (repeat (first | exact At.here | apply At.there)))
  clear hS
  have hS := hS1
  clear hS1
  rw [hb4, hb5] at hk
  obtain ⟨pi, pk, pt, px, ⟨pa1, pa2, pa3⟩, ⟨pb1, pb2, pb3⟩, ⟨pc1, pc2, pc3⟩, ⟨pd1, pd2, pd3⟩⟩ := hx
  obtain ⟨qi, qk, qt, qx, ⟨qa1, qa2, qa3⟩, ⟨qb1, qb2, qb3⟩, ⟨qc1, qc2, qc3⟩, ⟨qd1, qd2, qd3⟩⟩ := hy
  (repeat' (first | (show wpListIn _ _ _ _ _ (_ :: _) _ _; first | (refine wx1 ?_; clear hk a; intro a hk) | (refine wx2 ?_ ?_ <;> (intro hp; clear hk a; intro a hk)) | (refine wx3 ?_; clear hk hS a; intro w b hS a hk) | (refine wx4 ?_; clear hk hS a; intro w hS a hk) | (refine wx5 ?_; clear hk hS a; intro w v hS a hk) | fail) | refine wx0 ?_ | (refine s_end hk ?_; clear hk a; intro a hk) | fail))
  obtain ⟨g2, hxg2, hrg2, hS1⟩ := hS.freeze (A := streeR T (pi, pk, pt, px, ⟨pa1, pa2, pa3⟩, ⟨pb1, pb2, pb3⟩, ⟨pc1, pc2, pc3⟩, ⟨pd1, pd2, pd3⟩)) (by (repeat (first | exact At.here | apply At.there)))
  clear hS
  have hS := hS1
  clear hS1
  have hxg2 : Frz g1 g2 := hxg2.1
  have hP2 : SrR g2 T (pi, pk, pt, px, ⟨pa1, pa2, pa3⟩, ⟨pb1, pb2, pb3⟩, ⟨pc1, pc2, pc3⟩, ⟨pd1, pd2, pd3⟩) := rdH.rd (SrR.stays _ _) hrg2
  obtain ⟨g3, hxg3, hrg3, hS1⟩ := hS.freeze (A := streeR T (qi, qk, qt, qx, ⟨qa1, qa2, qa3⟩, ⟨qb1, qb2, qb3⟩, ⟨qc1, qc2, qc3⟩, ⟨qd1, qd2, qd3⟩)) (by (repeat (first | exact At.here | apply At.there)))
  clear hS
  have hS := hS1
  clear hS1
  have hxg3 : Frz g2 g3 := hxg3.1
  have hQ3 : SrR g3 T (qi, qk, qt, qx, ⟨qa1, qa2, qa3⟩, ⟨qb1, qb2, qb3⟩, ⟨qc1, qc2, qc3⟩, ⟨qd1, qd2, qd3⟩) := rdH.rd (SrR.stays _ _) hrg3
  have hP3 := hP2.frz hxg3
  replace hS : St ⟨g3, w0⟩ _ w := hS
  have his := fun w0 h1 h2 => is9_any T T (pi, pk, pt, px, ⟨pa1, pa2, pa3⟩, ⟨pb1, pb2, pb3⟩, ⟨pc1, pc2, pc3⟩, ⟨pd1, pd2, pd3⟩) (qi, qk, qt, qx, ⟨qa1, qa2, qa3⟩, ⟨qb1, qb2, qb3⟩, ⟨qc1, qc2, qc3⟩, ⟨qd1, qd2, qd3⟩) w0 hsf hsf (by omega) (by omega) h1 h2
  rw [eqS_self, decide_eq_true rfl] at his
  refine wp_drawn 10 mixed (by kernel_rfl) hk hS ?_; clear hk hS a
  (repeat' (first | (show ObxE _ _ _ _ _ _ _ _ _ (_ :: _) _ _ _; first | refine ox1 ?_ | (refine ox2 ?_ ?_ <;> intro hp) | fail) | fail))
  refine' obe_val (fun us a w hk hd hS => ?_) ?_; rotate_left; focus (have hk := Kn.vw hk (by repeat (first | exact VW.nil | apply VW.val rfl | apply VW.base rfl rfl | apply VW.res rfl | apply VW.upd rfl | apply VW.cpy rfl | apply VW.dep rfl | apply VW.fn rfl | apply VW.lnd rfl | apply VW.tak rfl)); exact g_callO hk (hf := by kernel_rfl) (hc := his _ (hS.rdSr hP3) (hS.rdSr hQ3)) (h := fun _ _ h => h))
  (repeat' (first | (show ObxE _ _ _ _ _ _ _ _ _ (_ :: _) _ _ _; first | refine ox1 ?_ | (refine ox2 ?_ ?_ <;> intro hp) | fail) | fail))
  refine' obe_val (fun us a w hk hd hS => ?_) ?_; rotate_left; focus (have hk := Kn.vw hk (by repeat (first | exact VW.nil | apply VW.val rfl | apply VW.base rfl rfl | apply VW.res rfl | apply VW.upd rfl | apply VW.cpy rfl | apply VW.dep rfl | apply VW.fn rfl | apply VW.lnd rfl | apply VW.tak rfl)); exact g_callO hk (hf := by kernel_rfl) (hc := show_any false (SizeOf.sizeOf T + 1) T (pi, pk, pt, px, ⟨pa1, pa2, pa3⟩, ⟨pb1, pb2, pb3⟩, ⟨pc1, pc2, pc3⟩, ⟨pd1, pd2, pd3⟩) _ (by omega) hm1 (by omega) (hS.rdSr hP3) (ht.mono hS.below)) (h := fun _ _ h => h))
  (repeat' (first | (show ObxE _ _ _ _ _ _ _ _ _ (_ :: _) _ _ _; first | refine ox1 ?_ | (refine ox2 ?_ ?_ <;> intro hp) | fail) | fail))
  refine' obe_val (fun us a w hk hd hS => ?_) ?_; rotate_left; focus (have hk := Kn.vw hk (by repeat (first | exact VW.nil | apply VW.val rfl | apply VW.base rfl rfl | apply VW.res rfl | apply VW.upd rfl | apply VW.cpy rfl | apply VW.dep rfl | apply VW.fn rfl | apply VW.lnd rfl | apply VW.tak rfl)); exact g_callO hk (hf := by kernel_rfl) (hc := rshow9_any false (SizeOf.sizeOf T + 1) T (qi, qk, qt, qx, ⟨qa1, qa2, qa3⟩, ⟨qb1, qb2, qb3⟩, ⟨qc1, qc2, qc3⟩, ⟨qd1, qd2, qd3⟩) _ (by omega) hm1 (by omega) (hS.rdSr hQ3) (ht.mono hS.below)) (h := fun _ _ h => h))
  (repeat' (first | (show ObxE _ _ _ _ _ _ _ _ _ (_ :: _) _ _ _; first | refine ox1 ?_ | (refine ox2 ?_ ?_ <;> intro hp) | fail) | fail))
  all_goals first | exact absurd rfl (by assumption) | skip
  refine obe_nil ⟨rfl, ?_⟩; intro us a w hk hS
  (repeat' (first | (show wpListIn _ _ _ _ _ (_ :: _) _ _; first | (refine wx1 ?_; clear hk a; intro a hk) | (refine wx2 ?_ ?_ <;> (intro hp; clear hk a; intro a hk)) | (refine wx3 ?_; clear hk hS a; intro w b hS a hk) | (refine wx4 ?_; clear hk hS a; intro w hS a hk) | (refine wx5 ?_; clear hk hS a; intro w v hS a hk) | fail) | refine wx0 ?_ | (refine s_end hk ?_; clear hk a; intro a hk) | fail))
  exact done1 hk (h := ⟨rfl, hS.flat⟩)
end Go.Proofs.YtkcjkbnbblpomaaGreatDoor
namespace Go.Proofs.YtkcjkbnbblpomaaGreatDoor
open Go.RowKit
set_option maxRecDepth 100000
attribute [local irreducible] Go.Code.wpIn Go.wpListIn Go.Calls Gives Go.Exit.then Go.Exit.inBlock Done ObxE

theorem laid_StillViews {W : World} (hL : laidMetH Tryz.prog Rows.stillViewsRow.laid W) : TabW W := by
  rw [MakeChecks.laidMetH_plain _ _ _ (by kernel_rfl)] at hL
  exact laid9 rfl hL
theorem walk_StillViews (W : World) (vs : List Value) (hL : laidMetH Tryz.prog Rows.stillViewsRow.laid W) (h : Args Tryz.prog W [22] vs) : Calls Tryz.prog 3 vs.toArray W (Ret fun v w => v = .bool true ∧ St W [] w) := by
  obtain ⟨v, rfl, ha⟩ := args1 h
  obtain ⟨F, hv, hR⟩ := arg_flats ha
  exact stillviews_any F v W hv hR (laid_StillViews hL)
end Go.Proofs.YtkcjkbnbblpomaaGreatDoor
