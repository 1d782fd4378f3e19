/- Layer 7: how great, how deep a view is, in plain words. Layer 7: which views may be, in plain words. Layer 7: views as they are shown, shown again; what is kept of a view that may be; in plain words. Layer 20, plain: without what is reserved all is as it was. Layer 2: what the reference says of texts. Layer 7: the names that a node has, and whether it may be by itself: the reference, of a node without kids. -/
import Derived.Test.YtakejjfmbgbedaaH16
import Derived.Test.YtakejjfmbgbedaaH20
import Derived.Test.YtakejjfmbgbedaaH21
namespace Go.Proofs.Ytakejjfmbgbedaa
open Go.RowKit

mutual
def dep : Tree → Nat
  | .mk _ _ _ _ _ _ _ _ kids => depL kids + 1
def depL : List Tree → Nat
  | [] => 0
  | t :: ts => max (dep t) (depL ts)
end
mutual
def lng : Tree → Int
  | .mk _ _ _ _ _ _ _ (e, lv, m, _) kids => max (max 0 (max e (max lv m))) (lngL kids)
def lngL : List Tree → Int
  | [] => 0
  | t :: ts => max (lng t) (lngL ts)
end
def sumN (l : List Nat) : Nat := l.foldl (· + ·) 0
def mxI (l : List Int) : Int := l.foldl max 0
end Go.Proofs.Ytakejjfmbgbedaa
namespace Go.Proofs.Ytakejjfmbgbedaa
open Go.RowKit

def namesL (cl : List ByteArray) (al : List PrS) (sl : List PrI) : List ByteArray := cl ++ al.map (·.1) ++ sl.map (·.1)
def lasts (n : Int) : Bool := decide (0 ≤ n ∧ n ≤ 1000)
def optsB (o : Opt) (k : Int) : Bool :=
  if k = 3 then lasts o.1 && lasts o.2.1 && lasts o.2.2.1 && decide (o.2.2.2.1 = 0)
  else if k = 4 then lasts o.1 && lasts o.2.1 && decide (o.2.2.1 = 0) && !o.2.2.2.2.2 && decide (0 ≤ o.2.2.2.1 ∧ o.2.2.2.1 ≤ 2)
  else decide (o = (0, 0, 0, 0, false, false))
def bareB (tag key : ByteArray) (cl : List ByteArray) (al : List PrS) (sl : List PrI) (o : Opt) (kids : List Tree) : Bool :=
  decide (tag = ⟨#[]⟩ ∧ key = ⟨#[]⟩ ∧ cl.length + al.length + sl.length + kids.length = 0 ∧ o = (0, 0, 0, 0, false, false))
def valB (al : List PrS) (sl : List PrI) : Bool := al.all (fun x => valS x.2) && sl.all (fun x => decide (-2147483648 ≤ x.2 ∧ x.2 ≤ 2147483647))
def Tree.key : Tree → ByteArray
  | .mk _ _ y _ _ _ _ _ _ => y
def kidB (t : Tree) : Bool := decide (t.kind = 2 ∧ t.key ≠ ⟨#[]⟩)
def keptB (k : Int) (kids : List Tree) : Bool := decide (k = 2) || (kids.all kidB && (decide (k = 3) || decide (kids.length ≤ 1)))
def mayB (k : Int) (tag key text : ByteArray) (cl : List ByteArray) (al : List PrS) (sl : List PrI) (o : Opt) (kids : List Tree) : Bool :=
  if k = 1 then bareB tag key cl al sl o kids && txtS text
  else if k = 2 ∨ k = 3 ∨ k = 4 then decide (text = ⟨#[]⟩) && nameS tag && (namesL cl al sl).all nameS && (decide (key = ⟨#[]⟩) || keyS key) && valB al sl && optsB o k && keptB k kids
  else false
def cntK (c : ByteArray) (ks : List ByteArray) : Nat := ks.countP (fun x => decide (x = c))
def twcB (ks : List ByteArray) : Bool := ks.any (fun c => decide (c ≠ ⟨#[]⟩ ∧ 1 < cntK c ks))

mutual
def chkT : Tree → Int → Int → Int → Int × Int
  | .mk k tag key text cl al sl o kids, deep, depth, left =>
    if depth < deep then (7, left - 1)
    else if left - 1 < 0 then (8, left - 1)
    else if mayB k tag key text cl al sl o kids = false then (4, left - 1)
    else if (namesL cl al sl).any rsvS = true then (6, left - 1)
    else if twcB (kids.map Tree.key) = true then (5, left - 1)
    else chkL kids (deep + 1) depth (left - 1)
def chkL : List Tree → Int → Int → Int → Int × Int
  | [], _, _, left => (0, left)
  | t :: ts, deep, depth, left => if (chkT t deep depth left).1 = 0 then chkL ts deep depth (chkT t deep depth left).2 else chkT t deep depth left
end
inductive Siz (X : Nat) : Tree → Prop
  | mk {k : Int} {tag key text : ByteArray} {cl : List ByteArray} {al : List (ByteArray × ByteArray)} {sl : List (ByteArray × Int)} {o : Opt} {kids : List Tree}
    (h1 : tag.size ≤ X) (h2 : key.size ≤ X) (h3 : text.size ≤ X) (h4 : ∀ c ∈ cl, c.size ≤ X) (h5 : ∀ x ∈ al, x.1.size ≤ X ∧ x.2.size ≤ X) (h6 : ∀ x ∈ sl, x.1.size ≤ X) (h7 : ∀ t ∈ kids, Siz X t) : Siz X (.mk k tag key text cl al sl o kids)
theorem Siz.names {X : Nat} {cl : List ByteArray} {al : List PrS} {sl : List PrI} (h4 : ∀ c ∈ cl, c.size ≤ X) (h5 : ∀ x ∈ al, x.1.size ≤ X ∧ x.2.size ≤ X) (h6 : ∀ x ∈ sl, x.1.size ≤ X) : ∀ c ∈ namesL cl al sl, c.size ≤ X := by
  intro c hc
  unfold namesL at hc
  rcases List.mem_append.1 hc with h | h
  · rcases List.mem_append.1 h with h | h
    · exact h4 c h
    · obtain ⟨x, hx, rfl⟩ := List.mem_map.1 h; exact (h5 x hx).1
  · obtain ⟨x, hx, rfl⟩ := List.mem_map.1 h; exact h6 x hx
end Go.Proofs.Ytakejjfmbgbedaa
namespace Go.Proofs.Ytakejjfmbgbedaa
open Go.RowKit

open Classical in
theorem cln_nodup (l : List ByteArray) : (clnC l).Nodup := by
  have : ∀ r : List ByteArray, (clnC r.reverse).Nodup := by
    intro r
    induction r with
    | nil => simp [clnC]
    | cons c r ih =>
      rw [List.reverse_cons, clnC_snoc]
      unfold addC
      split
      · exact ih
      · rename_i hn
        rw [List.nodup_append]
        refine ⟨ih, by simp, fun a ha b hb => ?_⟩
        rw [List.mem_singleton] at hb
        subst hb
        intro e
        subst e
        exact hn ha
  have := this l.reverse
  rwa [List.reverse_reverse] at this
open Classical in
theorem cln_of_nodup (l : List ByteArray) (h : l.Nodup) : clnC l = l := by
  have : ∀ r : List ByteArray, r.reverse.Nodup → clnC r.reverse = r.reverse := by
    intro r
    induction r with
    | nil => intro _; rfl
    | cons c r ih =>
      intro hd
      rw [List.reverse_cons] at hd ⊢
      rw [List.nodup_append] at hd
      rw [clnC_snoc, ih hd.1]
      unfold addC
      rw [if_neg]
      intro hm
      exact hd.2.2 c hm c (by simp) rfl
  have := this l.reverse (by simpa using h)
  rwa [List.reverse_reverse] at this
theorem cln_cln (l : List ByteArray) : clnC (clnC l) = clnC l := cln_of_nodup _ (cln_nodup l)
open Classical in
theorem cln_sub (l : List ByteArray) : ∀ c ∈ clnC l, c ∈ l := by
  have : ∀ r : List ByteArray, ∀ c ∈ clnC r.reverse, c ∈ r.reverse := by
    intro r
    induction r with
    | nil => simp [clnC]
    | cons x r ih =>
      intro c hc
      rw [List.reverse_cons, clnC_snoc] at hc
      rw [List.reverse_cons]
      unfold addC at hc
      split at hc
      · exact List.mem_append_left _ (ih c hc)
      · rcases List.mem_append.1 hc with h | h
        · exact List.mem_append_left _ (ih c h)
        · exact List.mem_append_right _ h
  have := this l.reverse
  rwa [List.reverse_reverse] at this
def lookS (s : ByteArray) : Bool := s.data.toList.all priB
def mayR (k : Int) (tag key text : ByteArray) (cl : List ByteArray) (al : List PrS) (sl : List PrI) (o : Opt) (kids : List Tree) : Bool :=
  if k = 1 then bareB tag key cl al sl o kids && lookS text
  else if k = 2 ∨ k = 3 ∨ k = 4 then decide (text = ⟨#[]⟩) && nameS tag && (namesL cl al sl).all nameS && (decide (key = ⟨#[]⟩) || keyS key) && valB al sl && optsB o k && keptB k kids
  else false
inductive OkR : Tree → Prop
  | mk {k : Int} {tag key text : ByteArray} {cl : List ByteArray} {al : List PrS} {sl : List PrI} {o : Opt} {kids : List Tree}
    (h1 : mayR k tag key text cl al sl o kids = true) (h2 : (namesL cl al sl).any rsvS = false) (h3 : twcB (kids.map Tree.key) = false) (h4 : ∀ t ∈ kids, OkR t) : OkR (.mk k tag key text cl al sl o kids)
mutual
def shortT : Tree → Bool
  | .mk _ _ _ text _ _ _ _ kids => shortL kids && decide (text.size ≤ 64)
def shortL : List Tree → Bool
  | [] => true
  | t :: ts => shortT t && shortL ts
end
def kk (t : Tree) : Int × ByteArray := (t.kind, t.key)
theorem snap_sub {κ α : Type} [Lin κ] [DecidableEq κ] (key : α → κ) (l : List α) : ∀ x ∈ snapF key l, x ∈ l := fun _ hx => last_mem key ((snap_last key).1 hx)
theorem names_sub {cl : List ByteArray} {al : List PrS} {sl : List PrI} : ∀ c ∈ namesL (clnC cl) (snapF nmS al) (snapF nmI sl), c ∈ namesL cl al sl := by
  intro c hc
  unfold namesL at *
  rcases List.mem_append.1 hc with h | h
  · rcases List.mem_append.1 h with h | h
    · exact List.mem_append_left _ (List.mem_append_left _ (cln_sub _ c h))
    · obtain ⟨x, hx, rfl⟩ := List.mem_map.1 h
      exact List.mem_append_left _ (List.mem_append_right _ (List.mem_map.2 ⟨x, snap_sub nmS _ x hx, rfl⟩))
  · obtain ⟨x, hx, rfl⟩ := List.mem_map.1 h
    exact List.mem_append_right _ (List.mem_map.2 ⟨x, snap_sub nmI _ x hx, rfl⟩)
end Go.Proofs.Ytakejjfmbgbedaa
namespace Go.Proofs.Ytakejjfmbgbedaa
open Go.RowKit

theorem cls_rsv (k m : Int) : ∀ c ∈ clsL k m, rsvS c = true := by
  intro c hc
  unfold clsL at hc
  rcases List.mem_append.1 hc with h | h
  · unfold mkL at h
    repeat' split at h
    all_goals simp only [List.mem_cons, List.not_mem_nil, or_false] at h
    all_goals first
      | (subst h; decide +kernel)
      | (rcases h with rfl | rfl <;> decide +kernel)
  · split at h
    · simp at h
    · simp only [List.mem_cons, List.not_mem_nil, or_false] at h
      subst h; decide +kernel
theorem gho_rsv (k : Int) : ∀ x ∈ ghoP k, rsvS (nmS x) = true := by
  intro x hx
  unfold ghoP at hx
  split at hx
  · simp only [List.mem_cons, List.not_mem_nil, or_false] at hx
    subst hx; decide +kernel
  · simp at hx
theorem mov_rsv (m x y : Int) : ∀ z ∈ movP m x y, rsvS (nmI z) = true := by
  intro z hz
  unfold movP at hz
  split at hz
  · simp only [List.mem_cons, List.not_mem_nil, or_false] at hz
    rcases hz with rfl | rfl
    · show rsvS ⟨#[116, 45, 100, 120]⟩ = true; decide +kernel
    · show rsvS ⟨#[116, 45, 100, 121]⟩ = true; decide +kernel
  · simp at hz
open Classical in
theorem flt_cls (A B : List ByteArray) (hA : ∀ c ∈ A, rsvS c = false) (hB : ∀ c ∈ B, rsvS c = true) : mineC (clnC (A ++ B)) = clnC A := by
  have : ∀ r : List ByteArray, (∀ c ∈ r, rsvS c = true) → mineC (clnC (A ++ r.reverse)) = clnC A := by
    intro r
    induction r with
    | nil =>
      intro _
      rw [List.reverse_nil, List.append_nil]
      unfold mineC
      rw [List.filter_eq_self]
      intro c hc
      rw [hA c (cln_sub A c hc)]; rfl
    | cons c r ih =>
      intro h
      have ih := ih fun c hc => h c (by simp [hc])
      rw [List.reverse_cons, ← List.append_assoc, clnC_snoc]
      unfold addC
      split
      · exact ih
      · unfold mineC at *
        rw [List.filter_append, ih]
        have := h c (by simp)
        simp [this]
  have := this B.reverse (fun c hc => hB c (by simpa using hc))
  rwa [List.reverse_reverse] at this
section
variable {κ α : Type} [Lin κ] (key : α → κ)
theorem last_app_ne {A G : List α} {k : κ} (h : ∀ x ∈ G, key x ≠ k) : lastF key (A ++ G) k = lastF key A k := by
  have : ∀ r : List α, (∀ x ∈ r, key x ≠ k) → lastF key (A ++ r.reverse) k = lastF key A k := by
    intro r
    induction r with
    | nil => intro _; rw [List.reverse_nil, List.append_nil]
    | cons x r ih =>
      intro h
      rw [List.reverse_cons, ← List.append_assoc, last_snoc, if_neg (h x (by simp))]
      exact ih fun y hy => h y (by simp [hy])
  have := this G.reverse (fun x hx => h x (by simpa using hx))
  rwa [List.reverse_reverse] at this
theorem flt_snap (p : κ → Bool) {A G : List α} (hr : Rises key A) (hA : ∀ x ∈ A, p (key x) = false) (hG : ∀ x ∈ G, p (key x) = true) : (snapF key (A ++ G)).filter (fun x => !p (key x)) = A := by
  refine rises_ext key (filter_rises key (snap_rises key _) _) hr fun x => ?_
  rw [List.mem_filter, snap_last]
  constructor
  · rintro ⟨h1, h2⟩
    have hp : p (key x) = false := by simpa using h2
    rw [last_app_ne key (fun y hy e => by have := hG y hy; rw [e, hp] at this; cases this)] at h1
    exact last_mem key h1
  · intro hx
    have hp := hA x hx
    refine ⟨?_, by rw [hp]; rfl⟩
    rw [last_app_ne key (fun y hy e => by have := hG y hy; rw [e, hp] at this; cases this)]
    exact rises_last key hr hx
end
theorem hid_cls {A : List ByteArray} (k m : Int) (hA : ∀ c ∈ A, rsvS c = false) : mineC (clnC (clnC A ++ clsL k m)) = clnC A := by
  rw [flt_cls _ _ (fun c hc => hA c (cln_sub A c hc)) (cls_rsv k m), cln_cln]
theorem hid_cls0 {A : List ByteArray} (hA : ∀ c ∈ A, rsvS c = false) : mineC (clnC A) = clnC A := by
  have := flt_cls A [] hA (by simp)
  rwa [List.append_nil] at this
theorem hid_att {A : List PrS} (k : Int) (hr : Rises nmS A) (hA : ∀ x ∈ A, rsvS (nmS x) = false) : mineS (snapF nmS (A ++ ghoP k)) = A := by
  unfold mineS
  rw [snap_snap]
  exact flt_snap nmS rsvS hr hA (gho_rsv k)
theorem hid_att0 {A : List PrS} (hr : Rises nmS A) (hA : ∀ x ∈ A, rsvS (nmS x) = false) : mineS A = A := by
  have := flt_snap nmS rsvS (G := []) hr hA (by simp)
  rw [List.append_nil] at this
  exact this
theorem hid_sty {A : List PrI} (m x y : Int) (hr : Rises nmI A) (hA : ∀ x ∈ A, rsvS (nmI x) = false) : mineI (snapF nmI (A ++ movP m x y)) = A := by
  unfold mineI
  rw [snap_snap]
  exact flt_snap nmI rsvS hr hA (mov_rsv m x y)
theorem hid_sty0 {A : List PrI} (hr : Rises nmI A) (hA : ∀ x ∈ A, rsvS (nmI x) = false) : mineI A = A := by
  have := flt_snap nmI rsvS (G := []) hr hA (by simp)
  rw [List.append_nil] at this
  exact this
theorem names_at {cl : List ByteArray} {al : List PrS} {sl : List PrI} (h : ∀ c ∈ namesL cl al sl, rsvS c = false) : (∀ c ∈ cl, rsvS c = false) ∧ (∀ x ∈ al, rsvS (nmS x) = false) ∧ (∀ x ∈ sl, rsvS (nmI x) = false) := by
  unfold namesL at h
  refine ⟨fun c hc => h c (List.mem_append_left _ (List.mem_append_left _ hc)), fun x hx => h _ (List.mem_append_left _ (List.mem_append_right _ (List.mem_map.2 ⟨x, hx, rfl⟩))), fun x hx => h _ (List.mem_append_right _ (List.mem_map.2 ⟨x, hx, rfl⟩))⟩
end Go.Proofs.Ytakejjfmbgbedaa
namespace Go.Proofs.Ytakejjfmbgbedaa
open Go.RowKit
set_option maxRecDepth 100000
attribute [local irreducible] Go.Code.wpIn Go.wpListIn Go.Calls Gives Go.Exit.then Go.Exit.inBlock Done ObxE

theorem rplain_any (b : UInt8) (w0 : World) : Calls Try.prog 91 #[.int .u8 (b.toNat : Nat)] w0 (Ret fun v w => v = .bool (plaB b) ∧ St w0 [] w) := by
  refine enter Try.func91 rfl Try.ntmps91 rfl (fun a hk => ?_); have hS := St.refl w0
  (repeat' (first | (show wpListIn _ _ _ _ _ (_ :: _) _ _; first | (refine wx1 ?_; clear hk a; intro a hk) | (refine wx2 ?_ ?_ <;> (intro hp; clear hk a; intro a hk)) | (refine wx3 ?_; clear hk hS a; intro w b hS a hk) | (refine wx4 ?_; clear hk hS a; intro w hS a hk) | (refine wx5 ?_; clear hk hS a; intro w v hS a hk) | fail) | refine wx0 ?_ | (refine s_end hk ?_; clear hk a; intro a hk) | fail))
  all_goals exact done1 hk (h := ⟨by unfold plaB; first | rw [decide_eq_true (by omega)] | rw [decide_eq_false (by omega)], hS.nil⟩)
theorem rkey_any (s : ByteArray) (hs : s.size ≤ 1000) (w0 : World) : Calls Try.prog 75 #[.string s] w0 (Ret fun v w => v = .bool (keyS s) ∧ St w0 [] w) := by
  refine enter Try.func75 rfl Try.ntmps75 rfl (fun a hk => ?_); have hS := St.refl w0
  (repeat' (first | (show wpListIn _ _ _ _ _ (_ :: _) _ _; first | (refine wx1 ?_; clear hk a; intro a hk) | (refine wx2 ?_ ?_ <;> (intro hp; clear hk a; intro a hk)) | (refine wx3 ?_; clear hk hS a; intro w b hS a hk) | (refine wx4 ?_; clear hk hS a; intro w hS a hk) | (refine wx5 ?_; clear hk hS a; intro w v hS a hk) | fail) | refine wx0 ?_ | (refine s_end hk ?_; clear hk a; intro a hk) | fail))
  replace hk := Kn.kp [0, 3] hk
  refine wp_for s.size (fun i _ => [(3, .int .i64 (i : Int))]) (fun _ _ => []) (fun i _ => (s.data.toList.take i).all plaB = true) () hk (by repeat (first | exact trivial | refine ⟨rfl, ?_⟩)) hS.sb (by simp) ?_
  clear hk hS a
  rintro i - a w hi hk hS hF
  by_cases hil : i < s.size
  · have htk := all_take hil plaB
    (repeat' (first | (show wpListIn _ _ _ _ _ (_ :: _) _ _; first | (refine wx1 ?_; clear hk a; intro a hk) | (refine wx2 ?_ ?_ <;> (intro hp; clear hk a; intro a hk)) | (refine wx3 ?_; clear hk hS a; intro w b hS a hk) | (refine wx4 ?_; clear hk hS a; intro w hS a hk) | (refine wx5 ?_; clear hk hS a; intro w v hS a hk) | fail) | refine wx0 ?_ | (refine s_end hk ?_; clear hk a; intro a hk) | fail))
    refine sg hk (g_callO hk (hf := by kernel_rfl) (hc := rplain_any s[i] _) (h := ?_)); clear hk a; rintro _ w ⟨rfl, hS1⟩ a hk; replace hS := hS.call0 hS1; clear hS1
    cases hb : plaB s[i] with
    | true =>
      rw [hb] at hk
      (repeat' (first | (show wpListIn _ _ _ _ _ (_ :: _) _ _; first | (refine wx1 ?_; clear hk a; intro a hk) | (refine wx2 ?_ ?_ <;> (intro hp; clear hk a; intro a hk)) | (refine wx3 ?_; clear hk hS a; intro w b hS a hk) | (refine wx4 ?_; clear hk hS a; intro w hS a hk) | (refine wx5 ?_; clear hk hS a; intro w v hS a hk) | fail) | refine wx0 ?_ | (refine s_end hk ?_; clear hk a; intro a hk) | fail))
      exact ⟨hil, (), hk.sd, hS.sb, by rw [htk, hF, hb]; rfl⟩
    | false =>
      rw [hb] at hk
      (repeat' (first | (show wpListIn _ _ _ _ _ (_ :: _) _ _; first | (refine wx1 ?_; clear hk a; intro a hk) | (refine wx2 ?_ ?_ <;> (intro hp; clear hk a; intro a hk)) | (refine wx3 ?_; clear hk hS a; intro w b hS a hk) | (refine wx4 ?_; clear hk hS a; intro w hS a hk) | (refine wx5 ?_; clear hk hS a; intro w v hS a hk) | fail) | refine wx0 ?_ | (refine s_end hk ?_; clear hk a; intro a hk) | fail))
      exact done1 hk (h := ⟨by unfold keyS; rw [all_no hil hb]; simp, hS.nil⟩)
  · have : i = s.size := by omega
    subst this
    rw [all_full] at hF
    (repeat' (first | (show wpListIn _ _ _ _ _ (_ :: _) _ _; first | (refine wx1 ?_; clear hk a; intro a hk) | (refine wx2 ?_ ?_ <;> (intro hp; clear hk a; intro a hk)) | (refine wx3 ?_; clear hk hS a; intro w b hS a hk) | (refine wx4 ?_; clear hk hS a; intro w hS a hk) | (refine wx5 ?_; clear hk hS a; intro w v hS a hk) | fail) | refine wx0 ?_ | (refine s_end hk ?_; clear hk a; intro a hk) | fail))
    all_goals exact done1 hk (h := ⟨by unfold keyS; rw [hF]; first | rw [decide_eq_true (by omega)]; rfl | rw [decide_eq_false (by omega)]; rfl, hS.nil⟩)
theorem rname_any (s : ByteArray) (hs : s.size ≤ 1000) (w0 : World) : Calls Try.prog 74 #[.string s] w0 (Ret fun v w => v = .bool (nameS s) ∧ St w0 [] w) := by
  refine enter Try.func74 rfl Try.ntmps74 rfl (fun a hk => ?_); have hS := St.refl w0
  (repeat' (first | (show wpListIn _ _ _ _ _ (_ :: _) _ _; first | (refine wx1 ?_; clear hk a; intro a hk) | (refine wx2 ?_ ?_ <;> (intro hp; clear hk a; intro a hk)) | (refine wx3 ?_; clear hk hS a; intro w b hS a hk) | (refine wx4 ?_; clear hk hS a; intro w hS a hk) | (refine wx5 ?_; clear hk hS a; intro w v hS a hk) | fail) | refine wx0 ?_ | (refine s_end hk ?_; clear hk a; intro a hk) | fail))
  refine sg hk (g_callO hk (hf := by kernel_rfl) (hc := rkey_any s hs _) (h := ?_)); clear hk a; rintro _ w ⟨rfl, hS1⟩ a hk; replace hS := hS.call0 hS1; clear hS1
  cases h : keyS s with
  | false =>
    rw [h] at hk
    (repeat' (first | (show wpListIn _ _ _ _ _ (_ :: _) _ _; first | (refine wx1 ?_; clear hk a; intro a hk) | (refine wx2 ?_ ?_ <;> (intro hp; clear hk a; intro a hk)) | (refine wx3 ?_; clear hk hS a; intro w b hS a hk) | (refine wx4 ?_; clear hk hS a; intro w hS a hk) | (refine wx5 ?_; clear hk hS a; intro w v hS a hk) | fail) | refine wx0 ?_ | (refine s_end hk ?_; clear hk a; intro a hk) | fail))
    exact done1 hk (h := ⟨by unfold nameS; rw [h]; rfl, hS.nil⟩)
  | true =>
    rw [h] at hk
    have h0 : 0 < s.size := by unfold keyS at h; simp at h; omega
    have hp : plaB s[0] = true := by
      have h2 : s.data.toList.all plaB = true := by unfold keyS at h; simp only [Bool.and_eq_true] at h; exact h.2
      exact List.all_eq_true.1 h2 _ (List.mem_of_getElem? (byte_at h0))
    unfold plaB at hp
    simp only [decide_eq_true_eq] at hp
    (repeat' (first | (show wpListIn _ _ _ _ _ (_ :: _) _ _; first | (refine wx1 ?_; clear hk a; intro a hk) | (refine wx2 ?_ ?_ <;> (intro hp; clear hk a; intro a hk)) | (refine wx3 ?_; clear hk hS a; intro w b hS a hk) | (refine wx4 ?_; clear hk hS a; intro w hS a hk) | (refine wx5 ?_; clear hk hS a; intro w v hS a hk) | fail) | refine wx0 ?_ | (refine s_end hk ?_; clear hk a; intro a hk) | fail))
    (repeat' (first | (show wpListIn _ _ _ _ _ (_ :: _) _ _; first | (refine wx1 ?_; clear hk a; intro a hk) | (refine wx2 ?_ ?_ <;> (intro hp; clear hk a; intro a hk)) | (refine wx3 ?_; clear hk hS a; intro w b hS a hk) | (refine wx4 ?_; clear hk hS a; intro w hS a hk) | (refine wx5 ?_; clear hk hS a; intro w v hS a hk) | fail) | refine wx0 ?_ | (refine s_end hk ?_; clear hk a; intro a hk) | fail))
    all_goals first
      | (have hq : (97 : Int) ≤ ((s[0]'h0).toNat : Nat) := by assumption
         exact done1 hk (h := ⟨by unfold nameS; rw [h, head_at h0]; unfold letB; rw [decide_eq_true (by omega)]; rfl, hS.nil⟩))
      | (have hq : ¬ (97 : Int) ≤ ((s[0]'h0).toNat : Nat) := by assumption
         exact done1 hk (h := ⟨by unfold nameS; rw [h, head_at h0]; unfold letB; rw [decide_eq_false (by omega)]; rfl, hS.nil⟩))
theorem rvalue_any (s : ByteArray) (hs : s.size ≤ 1000) (w0 : World) : Calls Try.prog 76 #[.string s] w0 (Ret fun v w => v = .bool (valS s) ∧ St w0 [] w) := by
  refine enter Try.func76 rfl Try.ntmps76 rfl (fun a hk => ?_); have hS := St.refl w0
  (repeat' (first | (show wpListIn _ _ _ _ _ (_ :: _) _ _; first | (refine wx1 ?_; clear hk a; intro a hk) | (refine wx2 ?_ ?_ <;> (intro hp; clear hk a; intro a hk)) | (refine wx3 ?_; clear hk hS a; intro w b hS a hk) | (refine wx4 ?_; clear hk hS a; intro w hS a hk) | (refine wx5 ?_; clear hk hS a; intro w v hS a hk) | fail) | refine wx0 ?_ | (refine s_end hk ?_; clear hk a; intro a hk) | fail))
  replace hk := Kn.kp [0, 3] hk
  refine wp_for s.size (fun i _ => [(3, .int .i64 (i : Int))]) (fun _ _ => []) (fun i _ => (s.data.toList.take i).all visB = true) () hk (by repeat (first | exact trivial | refine ⟨rfl, ?_⟩)) hS.sb (by simp) ?_
  clear hk hS a
  rintro i - a w hi hk hS hF
  by_cases hil : i < s.size
  · have htk := all_take hil visB
    (repeat' (first | (show wpListIn _ _ _ _ _ (_ :: _) _ _; first | (refine wx1 ?_; clear hk a; intro a hk) | (refine wx2 ?_ ?_ <;> (intro hp; clear hk a; intro a hk)) | (refine wx3 ?_; clear hk hS a; intro w b hS a hk) | (refine wx4 ?_; clear hk hS a; intro w hS a hk) | (refine wx5 ?_; clear hk hS a; intro w v hS a hk) | fail) | refine wx0 ?_ | (refine s_end hk ?_; clear hk a; intro a hk) | fail))
    all_goals first
      | exact ⟨hil, (), hk.sd, hS.sb, by rw [htk, hF]; unfold visB; rw [decide_eq_true (by omega)]; rfl⟩
      | exact done1 hk (h := ⟨by unfold valS; rw [all_no hil (by unfold visB; rw [decide_eq_false (by omega)])]; simp, hS.nil⟩)
  · have : i = s.size := by omega
    subst this
    rw [all_full] at hF
    (repeat' (first | (show wpListIn _ _ _ _ _ (_ :: _) _ _; first | (refine wx1 ?_; clear hk a; intro a hk) | (refine wx2 ?_ ?_ <;> (intro hp; clear hk a; intro a hk)) | (refine wx3 ?_; clear hk hS a; intro w b hS a hk) | (refine wx4 ?_; clear hk hS a; intro w hS a hk) | (refine wx5 ?_; clear hk hS a; intro w v hS a hk) | fail) | refine wx0 ?_ | (refine s_end hk ?_; clear hk a; intro a hk) | fail))
    all_goals exact done1 hk (h := ⟨by unfold valS; rw [hF]; first | rw [decide_eq_true (by omega)]; rfl | rw [decide_eq_false (by omega)]; rfl, hS.nil⟩)
theorem rtext_any (s : ByteArray) (hs : s.size ≤ 1000) (w0 : World) : Calls Try.prog 73 #[.string s] w0 (Ret fun v w => v = .bool (txtS s) ∧ St w0 [] w) := by
  refine enter Try.func73 rfl Try.ntmps73 rfl (fun a hk => ?_); have hS := St.refl w0
  (repeat' (first | (show wpListIn _ _ _ _ _ (_ :: _) _ _; first | (refine wx1 ?_; clear hk a; intro a hk) | (refine wx2 ?_ ?_ <;> (intro hp; clear hk a; intro a hk)) | (refine wx3 ?_; clear hk hS a; intro w b hS a hk) | (refine wx4 ?_; clear hk hS a; intro w hS a hk) | (refine wx5 ?_; clear hk hS a; intro w v hS a hk) | fail) | refine wx0 ?_ | (refine s_end hk ?_; clear hk a; intro a hk) | fail))
  replace hk := Kn.kp [0, 3] hk
  refine wp_for s.size (fun i _ => [(3, .int .i64 (i : Int))]) (fun _ _ => []) (fun i _ => (s.data.toList.take i).all priB = true) () hk (by repeat (first | exact trivial | refine ⟨rfl, ?_⟩)) hS.sb (by simp) ?_
  clear hk hS a
  rintro i - a w hi hk hS hF
  by_cases hil : i < s.size
  · have htk := all_take hil priB
    (repeat' (first | (show wpListIn _ _ _ _ _ (_ :: _) _ _; first | (refine wx1 ?_; clear hk a; intro a hk) | (refine wx2 ?_ ?_ <;> (intro hp; clear hk a; intro a hk)) | (refine wx3 ?_; clear hk hS a; intro w b hS a hk) | (refine wx4 ?_; clear hk hS a; intro w hS a hk) | (refine wx5 ?_; clear hk hS a; intro w v hS a hk) | fail) | refine wx0 ?_ | (refine s_end hk ?_; clear hk a; intro a hk) | fail))
    all_goals first
      | exact ⟨hil, (), hk.sd, hS.sb, by rw [htk, hF]; unfold priB; rw [decide_eq_true (by omega)]; rfl⟩
      | exact done1 hk (h := ⟨by unfold txtS; rw [all_no hil (by unfold priB; rw [decide_eq_false (by omega)])]; simp, hS.nil⟩)
  · have : i = s.size := by omega
    subst this
    rw [all_full] at hF
    (repeat' (first | (show wpListIn _ _ _ _ _ (_ :: _) _ _; first | (refine wx1 ?_; clear hk a; intro a hk) | (refine wx2 ?_ ?_ <;> (intro hp; clear hk a; intro a hk)) | (refine wx3 ?_; clear hk hS a; intro w b hS a hk) | (refine wx4 ?_; clear hk hS a; intro w hS a hk) | (refine wx5 ?_; clear hk hS a; intro w v hS a hk) | fail) | refine wx0 ?_ | (refine s_end hk ?_; clear hk a; intro a hk) | fail))
    all_goals exact done1 hk (h := ⟨by unfold txtS; rw [hF]; first | rw [decide_eq_true (by omega)]; rfl | rw [decide_eq_false (by omega)]; rfl, hS.nil⟩)
theorem rreserved_any (s : ByteArray) (w0 : World) : Calls Try.prog 59 #[.string s] w0 (Ret fun v w => v = .bool (rsvS s) ∧ St w0 [] w) := by
  refine enter Try.func59 rfl Try.ntmps59 rfl (fun a hk => ?_); have hS := St.refl w0
  by_cases h : 2 ≤ s.size
  · (repeat' (first | (show wpListIn _ _ _ _ _ (_ :: _) _ _; first | (refine wx1 ?_; clear hk a; intro a hk) | (refine wx2 ?_ ?_ <;> (intro hp; clear hk a; intro a hk)) | (refine wx3 ?_; clear hk hS a; intro w b hS a hk) | (refine wx4 ?_; clear hk hS a; intro w hS a hk) | (refine wx5 ?_; clear hk hS a; intro w v hS a hk) | fail) | refine wx0 ?_ | (refine s_end hk ?_; clear hk a; intro a hk) | fail))
    all_goals first
      | exact done1 hk (h := ⟨by unfold rsvS; rw [decide_eq_true ⟨h, by simpa using (by assumption)⟩], hS.nil⟩)
      | exact done1 hk (h := ⟨by unfold rsvS; rw [decide_eq_false (fun e => absurd e.2 (by simpa using (by assumption)))], hS.nil⟩)
  · (repeat' (first | (show wpListIn _ _ _ _ _ (_ :: _) _ _; first | (refine wx1 ?_; clear hk a; intro a hk) | (refine wx2 ?_ ?_ <;> (intro hp; clear hk a; intro a hk)) | (refine wx3 ?_; clear hk hS a; intro w b hS a hk) | (refine wx4 ?_; clear hk hS a; intro w hS a hk) | (refine wx5 ?_; clear hk hS a; intro w v hS a hk) | fail) | refine wx0 ?_ | (refine s_end hk ?_; clear hk a; intro a hk) | fail))
    exact done1 hk (h := ⟨by unfold rsvS; rw [decide_eq_false (fun e => h e.1)], hS.nil⟩)

end Go.Proofs.Ytakejjfmbgbedaa
namespace Go.Proofs.Ytakejjfmbgbedaa
open Go.RowKit
set_option maxRecDepth 100000
attribute [local irreducible] Go.Code.wpIn Go.wpListIn Go.Calls Gives Go.Exit.then Go.Exit.inBlock Done ObxE

set_option maxHeartbeats 4000000 in
theorem names07_any (t : Tree) (h : NdH) (w0 : World) (hr : TrR w0 t h) (cl : List ByteArray) (al : List PrS) (sl : List PrI) (hl : cl.length ≤ 100 ∧ al.length ≤ 100 ∧ sl.length ≤ 100) {k : Int} {tag key text : ByteArray} {o : Opt} {kids : List Tree} (ht : t = .mk k tag key text cl al sl o kids) :
    Calls Try.prog 58 #[ndV h] w0 (Ret fun v w => St w0 [OwT 9 (namesL cl al sl) v] w) := by
  obtain ⟨l1, l2, l3⟩ := hl
  obtain ⟨k, tag, key, text, cl', al', sl', e, lv, m, d, p, q, kids, a1, m1, a2, m2, a3, m3, a4, m4, H, rfl, rfl, c1, c2, c3, c4, hF⟩ := hr.split
  injection ht with _ _ _ _ i5 i6 i7 _ _
  subst i5 i6 i7
  show Calls Try.prog 58 #[.agg #[.int .i64 k, .string tag, .string key, .string text, .slice a1 cl'.length m1, .slice a2 al'.length m2, .slice a3 sl'.length m3, .int .i64 e, .int .i64 lv, .int .i64 m, .int .i64 d, .bool p, .bool q, .slice a4 H.length m4]] w0 _
  refine enter Try.func58 rfl Try.ntmps58 rfl (fun a hk => ?_); have hS := St.refl w0
  (repeat' (first | (show wpListIn _ _ _ _ _ (_ :: _) _ _; first | (refine wx1 ?_; clear hk a; intro a hk) | (refine wx2 ?_ ?_ <;> (intro hp; clear hk a; intro a hk)) | (refine wx3 ?_; clear hk hS a; intro w b hS a hk) | (refine wx4 ?_; clear hk hS a; intro w hS a hk) | (refine wx5 ?_; clear hk hS a; intro w v hS a hk) | fail) | refine wx0 ?_ | (refine s_end hk ?_; clear hk a; intro a hk) | fail))
  rename Nat => b1
  refine sg hk (g_bs0 ByteArray hS ?_ (hT := eT rfl) (hE := zT rfl)); clear hk hS a; intro w v0 hS a hk
  refine sg hk (g_field hk ?_ (fT rfl)); clear hk a; intro a hk
  refine sg hk (g_own1 hk hS ?_ (aT rfl)); clear hk a; intro a hk
  refine sg hk (g_appT (xs := ([] : List ByteArray)) (ys := cl') hk hS ?_ (hT := eT rfl) (hTx := eT rfl) (hE := zT rfl) (hz := oT rfl) (hzs := rfl) (hs := hS.rdT c1) (hby := bT rfl) (hbytes := by simp only [List.length_nil]; omega) (h63 := by simp only [maxLen, List.length_nil]; omega)); clear hk hS a; intro w v1 hS a hk
  rw [List.nil_append] at hS
  (repeat' (first | (show wpListIn _ _ _ _ _ (_ :: _) _ _; first | (refine wx1 ?_; clear hk a; intro a hk) | (refine wx2 ?_ ?_ <;> (intro hp; clear hk a; intro a hk)) | (refine wx3 ?_; clear hk hS a; intro w b hS a hk) | (refine wx4 ?_; clear hk hS a; intro w hS a hk) | (refine wx5 ?_; clear hk hS a; intro w v hS a hk) | fail) | refine wx0 ?_ | (refine s_end hk ?_; clear hk a; intro a hk) | fail))
  replace hk := Kn.kp [1, 3, 13, 14, 15] hk
  replace hS : St w0 [OwT 9 (cl' ++ (al'.take 0).map (·.1)) v1, pts b1 [.int .i64 k, .string tag, .string key, .string text, .slice a1 cl'.length m1, .slice a2 al'.length m2, .slice a3 sl'.length m3, .int .i64 e, .int .i64 lv, .int .i64 m, .int .i64 d, .bool p, .bool q, .slice a4 H.length m4] 44] w := by rw [List.take_zero, List.map_nil, List.append_nil]; exact hS.sub (by (repeat (first | exact Sub.nil | exact Sub.refl | refine Sub.cons (by (repeat (first | exact At.here | apply At.there))) ?_)))
  refine wp_for al'.length (fun i v => [(3, v), (15, .int .i64 (i : Int))]) (fun i v => [OwT 9 (cl' ++ (al'.take i).map (·.1)) v, pts b1 [.int .i64 k, .string tag, .string key, .string text, .slice a1 cl'.length m1, .slice a2 al'.length m2, .slice a3 sl'.length m3, .int .i64 e, .int .i64 lv, .int .i64 m, .int .i64 d, .bool p, .bool q, .slice a4 H.length m4] 44]) (fun _ _ => True) v1 hk (by repeat (first | exact trivial | refine ⟨rfl, ?_⟩)) hS.sb trivial ?_
  clear hk hS a v0
  rintro i v3 a w hi hk hS -
  have hv2 := hS.rdT c2
  have hla : ((al'.take i).map (·.1)).length = i := by rw [List.length_map, List.length_take]; omega
  have hlb : (cl' ++ (al'.take i).map (·.1)).length = cl'.length + i := by rw [List.length_append, hla]
  by_cases hil : i < al'.length
  · obtain ⟨⟨nm, val⟩, hx⟩ : ∃ x, al'[i]? = some x := ⟨_, List.getElem?_eq_getElem hil⟩
    have hst : cl' ++ (al'.take (i + 1)).map (·.1) = cl' ++ (al'.take i).map (·.1) ++ [nm] := by rw [take_snoc hx, List.map_append, List.append_assoc]; rfl
    generalize cl' ++ (al'.take i).map (·.1) = Y at *
    (repeat' (first | (show wpListIn _ _ _ _ _ (_ :: _) _ _; first | (refine wx1 ?_; clear hk a; intro a hk) | (refine wx2 ?_ ?_ <;> (intro hp; clear hk a; intro a hk)) | (refine wx3 ?_; clear hk hS a; intro w b hS a hk) | (refine wx4 ?_; clear hk hS a; intro w hS a hk) | (refine wx5 ?_; clear hk hS a; intro w v hS a hk) | fail) | refine wx0 ?_ | (refine s_end hk ?_; clear hk a; intro a hk) | fail))
    rename Value => v4
    rw [← hst] at hS
    exact ⟨hil, v4, hk.sd, hS.sb, trivial⟩
  · have hii : i = al'.length := by omega
    subst hii
    rw [List.take_length] at hS
    have c3' := hS.rdT c3
    (repeat' (first | (show wpListIn _ _ _ _ _ (_ :: _) _ _; first | (refine wx1 ?_; clear hk a; intro a hk) | (refine wx2 ?_ ?_ <;> (intro hp; clear hk a; intro a hk)) | (refine wx3 ?_; clear hk hS a; intro w b hS a hk) | (refine wx4 ?_; clear hk hS a; intro w hS a hk) | (refine wx5 ?_; clear hk hS a; intro w v hS a hk) | fail) | refine wx0 ?_ | (refine s_end hk ?_; clear hk a; intro a hk) | fail))
    replace hk := Kn.kp [3, 26, 27, 28] hk
    replace hS : St w0 [OwT 9 (cl' ++ al'.map (·.1) ++ (sl'.take 0).map (·.1)) v3] w := by rw [List.take_zero, List.map_nil, List.append_nil]; exact hS.sub (by (repeat (first | exact Sub.nil | exact Sub.refl | refine Sub.cons (by (repeat (first | exact At.here | apply At.there))) ?_)))
    refine wp_for sl'.length (fun i v => [(3, v), (28, .int .i64 (i : Int))]) (fun i v => [OwT 9 (cl' ++ al'.map (·.1) ++ (sl'.take i).map (·.1)) v]) (fun _ _ => True) v3 hk (by repeat (first | exact trivial | refine ⟨rfl, ?_⟩)) hS.sb trivial ?_
    clear hk hS a hv2 c3' hla hlb
    rintro i v3 a w hi hk hS -
    have hv2 := hS.rdT c3
    have hla : ((sl'.take i).map (·.1)).length = i := by rw [List.length_map, List.length_take]; omega
    have hlb : (cl' ++ al'.map (·.1) ++ (sl'.take i).map (·.1)).length = cl'.length + al'.length + i := by rw [List.length_append, List.length_append, List.length_map, hla]
    by_cases hil : i < sl'.length
    · obtain ⟨⟨nm, val⟩, hx⟩ : ∃ x, sl'[i]? = some x := ⟨_, List.getElem?_eq_getElem hil⟩
      have hst : cl' ++ al'.map (·.1) ++ (sl'.take (i + 1)).map (·.1) = cl' ++ al'.map (·.1) ++ (sl'.take i).map (·.1) ++ [nm] := by rw [take_snoc hx, List.map_append, ← List.append_assoc]; rfl
      generalize cl' ++ al'.map (·.1) ++ (sl'.take i).map (·.1) = Y at *
      (repeat' (first | (show wpListIn _ _ _ _ _ (_ :: _) _ _; first | (refine wx1 ?_; clear hk a; intro a hk) | (refine wx2 ?_ ?_ <;> (intro hp; clear hk a; intro a hk)) | (refine wx3 ?_; clear hk hS a; intro w b hS a hk) | (refine wx4 ?_; clear hk hS a; intro w hS a hk) | (refine wx5 ?_; clear hk hS a; intro w v hS a hk) | fail) | refine wx0 ?_ | (refine s_end hk ?_; clear hk a; intro a hk) | fail))
      rename Value => v4
      rw [← hst] at hS
      exact ⟨hil, v4, hk.sd, hS.sb, trivial⟩
    · have hii : i = sl'.length := by omega
      subst hii
      rw [List.take_length] at hS
      (repeat' (first | (show wpListIn _ _ _ _ _ (_ :: _) _ _; first | (refine wx1 ?_; clear hk a; intro a hk) | (refine wx2 ?_ ?_ <;> (intro hp; clear hk a; intro a hk)) | (refine wx3 ?_; clear hk hS a; intro w b hS a hk) | (refine wx4 ?_; clear hk hS a; intro w hS a hk) | (refine wx5 ?_; clear hk hS a; intro w v hS a hk) | fail) | refine wx0 ?_ | (refine s_end hk ?_; clear hk a; intro a hk) | fail))
      exact done1 hk (h := hS)
end Go.Proofs.Ytakejjfmbgbedaa
