/- Layer 9, plain: of a view that may be nothing is erased, and its text is its own. Layer 9, plain: a short view's static rendering is short. Layer 9: without what is reserved: the program. Layer 9: without what is reserved: the reference. Layer 9: a tree of a view's nodes, with numbers: the program. -/
import Derived.Test.YtkcjkbnbblpomaaGreatDoorT26
import Derived.Test.YtkcjkbnbblpomaaGreatDoorT16
import Derived.Test.YtkcjkbnbblpomaaGreatDoorT21
import Derived.Test.YtkcjkbnbblpomaaGreatDoorT12
import Derived.Test.YtkcjkbnbblpomaaGreatDoorT13
set_option linter.all false
namespace Go.Proofs.YtkcjkbnbblpomaaGreatDoor
open Go.RowKit

theorem stlL_mem {l : List Tree} {x : STree} (h : x ∈ stlL l) : ∃ t ∈ l, x = stl t := by
  rw [stlL_map, List.mem_map] at h
  obtain ⟨t, ht, e⟩ := h
  exact ⟨t, ht, e.symm⟩
theorem stl_fits {t : Tree} (h : Fits t) : SFits (stl t) := by
  induction h with
  | mk h1 h2 h3 h4 _ ih =>
    rw [stl]
    split
    · exact .mk (by simp) (by simp) (by simp) (by simp) (by simp)
    · refine .mk h1 h2 h3 (by rw [stlL_map, List.length_map]; exact h4) fun x hx => ?_
      obtain ⟨t, ht, rfl⟩ := stlL_mem hx
      exact ih t ht
theorem okR_vt {t : Tree} (h : OkR t) : VT (stl t) := by
  induction h with
  | mk h1 h2 h3 _ ih =>
    unfold mayR at h1
    rw [stl]
    split
    · rename_i hk
      rw [if_pos hk] at h1
      simp only [Bool.and_eq_true] at h1
      exact .mk (.inl ⟨rfl, h1.2, rfl, rfl, rfl, rfl, rfl⟩) (by simp)
    · rename_i hk
      rw [if_neg hk] at h1
      split at h1
      · simp only [Bool.and_eq_true, valB] at h1
        obtain ⟨⟨⟨⟨⟨⟨-, q2⟩, q3⟩, -⟩, q5, -⟩, -⟩, -⟩ := h1
        rw [List.all_eq_true] at q3 q5
        refine .mk (.inr ⟨rfl, rfl, name_plain q2, fun c hc => name_plain (q3 c (by simp [namesL, hc])), fun x hx => ⟨name_plain (q3 x.1 ?_), ?_⟩, fun x hx => q3 x.1 ?_⟩) fun x hx => ?_
        · unfold namesL
          simp only [List.mem_append, List.mem_map]
          exact .inl (.inr ⟨x, hx, rfl⟩)
        · have := q5 x hx
          unfold valS at this
          rw [Bool.and_eq_true] at this
          exact this.2
        · unfold namesL
          simp only [List.mem_append, List.mem_map]
          exact .inr ⟨x, hx, rfl⟩
        · obtain ⟨t, ht, rfl⟩ := stlL_mem hx
          exact ih t ht
      · cases h1
theorem mine_none {cl : List ByteArray} (h : ∀ c ∈ cl, rsvS c = false) : mineC cl = cl := by
  unfold mineC
  rw [List.filter_eq_self]
  intro c hc
  rw [h c hc]; rfl
theorem mineS_none {al : List PrS} (h : ∀ x ∈ al, rsvS x.1 = false) (hr : snapF nmS al = al) : mineS al = al := by
  unfold mineS
  rw [hr, List.filter_eq_self]
  intro c hc
  rw [h c hc]; rfl
theorem mineI_none {al : List PrI} (h : ∀ x ∈ al, rsvS x.1 = false) (hr : snapF nmI al = al) : mineI al = al := by
  unfold mineI
  rw [hr, List.filter_eq_self]
  intro c hc
  rw [h c hc]; rfl
theorem okR_er {t : Tree} (h : OkR t) : SRis (stl t) → erT (stl t) = stl t ∧ (stl t).ghost = false := by
  induction h with
  | @mk k tag key text cl al sl o kids h1 h2 h3 _ ih =>
    rw [stl]
    split
    · intro _
      refine ⟨?_, rfl⟩
      rw [erT]
      simp [mineC, mineS, mineI, erL, snapF]
    · intro hs
      cases hs with
      | mk s1 s2 s3 =>
        rw [List.any_eq_false] at h2
        have hn : ∀ c, c ∈ namesL cl al sl → rsvS c = false := fun c hc => by simpa using h2 c hc
        have hA : ∀ x ∈ al, rsvS x.1 = false := fun x hx => hn x.1 (by
          unfold namesL
          simp only [List.mem_append, List.mem_map]
          exact .inl (.inr ⟨x, hx, rfl⟩))
        refine ⟨?_, ?_⟩
        · rw [erT, mine_none fun c hc => hn c (by simp [namesL, hc]), mineS_none hA s1, mineI_none (fun x hx => hn x.1 (by
            unfold namesL
            simp only [List.mem_append, List.mem_map]
            exact .inr ⟨x, hx, rfl⟩)) s2, erL_fix]
          intro x hx
          obtain ⟨t, ht, rfl⟩ := stlL_mem hx
          have := ih t ht (s3 _ hx)
          exact ⟨this.2, this.1⟩
        · show ghB _ = false
          unfold ghB
          rw [List.any_eq_false]
          intro x hx
          simp only [decide_eq_true_eq]
          intro e
          have := hA x hx
          rw [e, gh_rsv] at this
          cases this
theorem mrg_ris (l : List Tree) (h : ∀ t ∈ l, SRis (stl t)) : ∀ t ∈ mrg l, SRis (stl t) := mrg_mem (P := fun t => SRis (stl t)) (fun t x ht => by
  cases t with
  | mk k tag key text cl al sl o kids =>
    rw [Tree.plus]
    rw [stl] at ht ⊢
    split
    · exact .mk rfl rfl (by simp)
    · rename_i hk
      rw [if_neg hk] at ht
      exact ht) l h
theorem nrm_ris (t : Tree) : SRis (stl (nrm t)) := by
  induction t using Tree.ind with
  | h k tag key text cl al sl o kids ih =>
    rw [nrm, stl]
    split
    · exact .mk rfl rfl (by simp)
    · refine .mk (snap_snap nmS al) (snap_snap nmI sl) fun x hx => ?_
      obtain ⟨t, ht, rfl⟩ := stlL_mem hx
      refine mrg_ris (nrmL kids) (fun u hu => ?_) t ht
      obtain ⟨v, hv, -, rfl⟩ := nrmL_mem2 hu
      exact ih v hv
mutual
theorem stl_pre : ∀ (t : Tree), (preT (stl t)).length ≤ cnt t
  | .mk k tag key text cl al sl o kids => by
    have h := stlL_pre kids
    rw [stl, cnt]
    split
    · simp [preT, preL]
    · rw [preT, List.length_cons]; omega
theorem stlL_pre : ∀ (l : List Tree), (preL (stlL l)).length ≤ cntL l
  | [] => by simp [stlL, preL]
  | t :: ts => by
    have h1 := stl_pre t
    have h2 := stlL_pre ts
    rw [stlL, preL, List.length_append, cntL]; omega
end
theorem preL_cnt : ∀ (l : List Tree), (∀ t ∈ l, (preT (stl t)).length = cnt t) → (preL (stlL l)).length = cntL l
  | [], _ => by simp [stlL, preL, cntL]
  | t :: ts, h => by rw [stlL, preL, List.length_append, cntL, h t (by simp), preL_cnt ts fun u hu => h u (by simp [hu])]
theorem okR_pre {t : Tree} (h : OkR t) : (preT (stl t)).length = cnt t := by
  induction h with
  | @mk k tag key text cl al sl o kids h1 _ _ _ ih =>
    rw [stl, cnt]
    split
    · rename_i hk
      unfold mayR at h1
      rw [if_pos hk] at h1
      simp only [Bool.and_eq_true, bareB, decide_eq_true_eq] at h1
      obtain ⟨⟨-, -, h2, -⟩, -⟩ := h1
      have h3 : kids = [] := List.eq_nil_of_length_eq_zero (by omega)
      subst h3
      simp [preT, preL, cntL]
    · rw [preT, List.length_cons, preL_cnt _ ih]
end Go.Proofs.YtkcjkbnbblpomaaGreatDoor
namespace Go.Proofs.YtkcjkbnbblpomaaGreatDoor
open Go.RowKit

inductive Mid (X : Nat) : Tree → Prop
  | mk {k : Int} {tag key text : ByteArray} {cl : List ByteArray} {al : List (ByteArray × ByteArray)} {sl : List (ByteArray × Int)} {o : Opt} {kids : List Tree}
    (h1 : tag.size ≤ 20) (h2 : text.size ≤ X) (h3 : cl.length ≤ 4) (h4 : ∀ c ∈ cl, c.size ≤ 20) (h5 : al.length ≤ 4) (h6 : ∀ x ∈ al, x.1.size ≤ 20 ∧ x.2.size ≤ 40) (h7 : sl.length ≤ 4) (h8 : ∀ x ∈ sl, x.1.size ≤ 20 ∧ in64 x.2) (hk : ∀ t ∈ kids, Mid X t) : Mid X (.mk k tag key text cl al sl o kids)
theorem Mid.plus {X : Nat} {t : Tree} {x : ByteArray} (h : Mid X t) (hx : (t.plus x).text.size ≤ X) : Mid X (t.plus x) := by
  cases h with
  | mk h1 h2 h3 h4 h5 h6 h7 h8 hk => exact .mk h1 hx h3 h4 h5 h6 h7 h8 hk
theorem mrg_mid {X : Nat} (l : List Tree) (hl : ∀ t ∈ l, Mid X t) (hx : txtL l ≤ X) : ∀ u ∈ mrg l, Mid X u := by
  have : ∀ r : List Tree, (∀ t ∈ r, Mid X t) → txtL r.reverse ≤ X → ∀ u ∈ mrg r.reverse, Mid X u := by
    intro r
    induction r with
    | nil => intro _ _ u hu; simp [mrg] at hu
    | cons t r ih =>
      intro hr hx u hu
      have hs := mrgS_txt (mrg r.reverse) t
      have hT := mrg_txt r.reverse
      rw [List.reverse_cons, txtL_snoc] at hx
      have ih := ih (fun t ht => hr t (by simp [ht])) (by omega)
      have ht := hr t (by simp)
      rw [List.reverse_cons, mrg_snoc] at hu
      have hm := txtL_mem hu
      unfold mrgS at hu hs hm
      split at hu
      · rename_i u0 hu0
        have hu1 : u0 ∈ mrg r.reverse := by rw [last_split hu0]; simp
        split at hu
        · rename_i hc
          rcases List.mem_append.1 hu with h | h
          · exact ih u (by rw [last_split hu0]; simp [h])
          · rw [List.mem_singleton] at h
            subst h
            simp only [hu0, if_pos hc] at hm hs
            exact (ih u0 hu1).plus (by omega)
        · rcases List.mem_append.1 hu with h | h
          · exact ih u h
          · rw [List.mem_singleton] at h; subst h; exact ht
      · rcases List.mem_append.1 hu with h | h
        · exact ih u h
        · rw [List.mem_singleton] at h; subst h; exact ht
  have h := this l.reverse (by simpa using hl) (by simpa using hx)
  simpa using h
theorem Small.mid {t : Tree} (h : Small t) : cnt t ≤ 25 → Mid 1800 (nrm t) := by
  induction h with
  | @mk k tag key text cl al sl o kids h hk ih =>
    intro hc
    rw [cnt] at hc
    have hkl := cntL_len kids
    have hfit : ∀ t ∈ kids, Fit 70 t := fun t ht => (hk t ht).fit (by have := cntL_mem ht; omega)
    obtain ⟨-, b1, -, b2, b3, b4, b5, b6, b7, b8, -⟩ := h
    rw [Proofs.YtkcjkbnbblpomaaGreatDoor.nrm]
    have ht := nrmL_txt kids hfit
    have hn1 := snap_len nmS al
    have hn2 := snap_len nmI sl
    have hn3 := clnC_le cl
    refine .mk b1 (by omega) (by omega) (fun c hc => b4 c (cln_sub _ c hc)) (by omega) (fun x hx => b6 x (snap_sub nmS _ x hx)) (by omega) (fun x hx => b8 x (snap_sub nmI _ x hx)) (mrg_mid _ (fun u hu => ?_) (by omega))
    obtain ⟨t, ht, rfl⟩ := nrmL_mem hu
    exact ih t ht (by have := cntL_mem ht; omega)
theorem Mid.ssm {t : Tree} (h : Mid 1800 t) : SSm (stl t) := by
  induction h with
  | mk h1 h2 h3 h4 h5 h6 h7 h8 _ ih =>
    have i0 : i64P 0 := by unfold i64P; omega
    rw [stl]
    split
    · exact .mk i0 (by decide) (by omega) (by simp) (by simp) (by simp) (by simp) (by simp) (by simp) (by simp)
    · refine .mk i0 h1 (by decide) h3 h4 h5 h6 h7 (fun x hx => ?_) fun x hx => ?_
      · have := h8 x hx
        exact ⟨this.1, by unfold i64P; unfold in64 at this; omega⟩
      · obtain ⟨t, ht, rfl⟩ := stlL_mem hx
        exact ih t ht
mutual
theorem scnt_pre : ∀ (t : STree), scnt t = (preT t).length
  | .mk id k tag text cl al sl kids => by rw [scnt, preT, List.length_cons, scntL_pre kids]
theorem scntL_pre : ∀ (l : List STree), scntL l = (preL l).length
  | [] => rfl
  | t :: ts => by rw [scntL, preL, List.length_append, scnt_pre t, scntL_pre ts]
end
theorem stl_small {t : Tree} (h : Small t) (hc : cnt t ≤ 25) : SSm (stl (nrm t)) ∧ scnt (stl (nrm t)) ≤ 25 ∧ (preT (stl (nrm t))).length ≤ 25 := by
  have h1 := stl_pre (nrm t)
  have h2 := (nrm_cnt t).1
  exact ⟨(h.mid hc).ssm, by rw [scnt_pre]; omega, by omega⟩
end Go.Proofs.YtkcjkbnbblpomaaGreatDoor
namespace Go.Proofs.YtkcjkbnbblpomaaGreatDoor
open Go.RowKit
set_option maxRecDepth 100000
attribute [local irreducible] Go.Code.wpIn Go.wpListIn Go.Calls Gives Go.Exit.then Go.Exit.inBlock Done ObxE

def getS (l : List PrS) (k : ByteArray) : ByteArray := ((lastF nmS l k).getD (k, (⟨#[]⟩ : ByteArray))).2
theorem getS_any (l : List PrS) (k : ByteArray) (v : Value) (w0 : World) (hv : SlT l v w0) (hl : l.length ≤ 1000) :
    Calls Tryz.prog 53 #[v, .string k] w0 (Ret fun v w => v = .tuple #[.string (getS l k), .bool (lastF nmS l k).isSome] ∧ St w0 [] w) := by
  have hsl := snap_len nmS l
  have hsr := snap_rises nmS l
  unfold getS
  rw [← snap_last_eq nmS l k]
  refine enter Tryz.func53 rfl Tryz.ntmps53 rfl (fun a hk => ?_); have hS := St.refl w0
  (repeat' (first | (show wpListIn _ _ _ _ _ (_ :: _) _ _; first | (refine wx1 ?_; clear hk a; intro a hk) | (refine wx2 ?_ ?_ <;> (intro hp; clear hk a; intro a hk)) | (refine wx3 ?_; clear hk hS a; intro w b hS a hk) | (refine wx4 ?_; clear hk hS a; intro w hS a hk) | (refine wx5 ?_; clear hk hS a; intro w v hS a hk) | fail) | refine wx0 ?_ | (refine s_end hk ?_; clear hk a; intro a hk) | fail))
  refine sg hk (g_callO hk (hf := by kernel_rfl) (hc := ofS_any l v _ (hS.rdT hv) hl) (h := ?_)); clear hk a; rintro vs w hS1 a hk; replace hS := hS.call hS1; clear hS1
  generalize snapF nmS l = S at *
  (repeat' (first | (show wpListIn _ _ _ _ _ (_ :: _) _ _; first | (refine wx1 ?_; clear hk a; intro a hk) | (refine wx2 ?_ ?_ <;> (intro hp; clear hk a; intro a hk)) | (refine wx3 ?_; clear hk hS a; intro w b hS a hk) | (refine wx4 ?_; clear hk hS a; intro w hS a hk) | (refine wx5 ?_; clear hk hS a; intro w v hS a hk) | fail) | refine wx0 ?_ | (refine s_end hk ?_; clear hk a; intro a hk) | fail))
  refine sg hk (g_callO hk (hf := by kernel_rfl) (hc := whereS_any S k vs _ (by first | exact St.rdT hS (by assumption) | exact OwT.rd (hS.rd (A := OwT _ _ _) (by (repeat (first | exact At.here | apply At.there)))) | assumption) (by omega) hsr) (h := ?_)); clear hk a; rintro vr w ⟨n, f, rfl, hF, hS1⟩ a hk; replace hS := hS.call hS1; clear hS1
  have hlast := found_last nmS hsr hF
  cases f with
  | true =>
    obtain ⟨hn, _⟩ := hF.2.2.2.1 rfl
    rw [if_pos rfl, List.getElem?_eq_getElem hn] at hlast
    rw [hlast]
    (repeat' (first | (show wpListIn _ _ _ _ _ (_ :: _) _ _; first | (refine wx1 ?_; clear hk a; intro a hk) | (refine wx2 ?_ ?_ <;> (intro hp; clear hk a; intro a hk)) | (refine wx3 ?_; clear hk hS a; intro w b hS a hk) | (refine wx4 ?_; clear hk hS a; intro w hS a hk) | (refine wx5 ?_; clear hk hS a; intro w v hS a hk) | fail) | refine wx0 ?_ | (refine s_end hk ?_; clear hk a; intro a hk) | fail))
    exact done2 hk (h := ⟨rfl, hS.nil⟩)
  | false =>
    rw [if_neg (by decide)] at hlast
    rw [hlast]
    (repeat' (first | (show wpListIn _ _ _ _ _ (_ :: _) _ _; first | (refine wx1 ?_; clear hk a; intro a hk) | (refine wx2 ?_ ?_ <;> (intro hp; clear hk a; intro a hk)) | (refine wx3 ?_; clear hk hS a; intro w b hS a hk) | (refine wx4 ?_; clear hk hS a; intro w hS a hk) | (refine wx5 ?_; clear hk hS a; intro w v hS a hk) | fail) | refine wx0 ?_ | (refine s_end hk ?_; clear hk a; intro a hk) | fail))
    exact done2 hk (h := ⟨rfl, hS.nil⟩)

theorem last_any (l : List PrS) (k : ByteArray) : (lastF nmS l k).isSome = l.any (fun x => decide (x.1 = k)) := by
  unfold lastF
  rw [Bool.eq_iff_iff, List.find?_isSome, List.any_eq_true]
  constructor
  · rintro ⟨x, hx, h⟩; exact ⟨x, by simpa using hx, by simpa [nmS] using h⟩
  · rintro ⟨x, hx, h⟩; exact ⟨x, by simpa using hx, by simpa [nmS] using h⟩
abbrev zTr : STree := .mk 0 0 ⟨#[]⟩ ⟨#[]⟩ [] [] [] []
def erO (t : STree) : STree := if t.ghost = true then zTr else erT t
set_option maxHeartbeats 4000000 in
theorem erase9_any : ∀ (n : Nat) (t : STree) (h : SnH) (w0 : World), SizeOf.sizeOf t < n → SFits t → SrR w0 t h →
    Calls Tryz.prog 25 #[snV h] w0 (Ret fun u w => ∃ hd, u = .tuple #[snV hd, .bool (!t.ghost)] ∧ St w0 [streeR (erO t) hd] w)
  | 0, _, _, _, hn, _, _ => by omega
  | n + 1, t, h, w0, hn, hf, hr => by
    have ih := erase9_any n
    obtain ⟨id, k, tag, text, cl, al, sl, kids, a1, m1, a2, m2, a3, m3, a4, m4, H, rfl, rfl, c1, c2, c3, c4, hF⟩ := hr.split
    obtain ⟨l1, l2, l3, l4, l5⟩ := hf
    have hHk : H.length = kids.length := hF.1
    have hla := last_any al ghS
    have hgt : ∀ w0 h1, Calls Tryz.prog 53 #[.slice a2 al.length m2, .string ⟨#[116, 45, 103, 104, 111, 115, 116]⟩] w0 (Ret fun v w => v = .tuple #[.string (getS al ghS), .bool (ghB al)] ∧ St w0 [] w) := fun w0 h1 => by
      have := getS_any al ghS (.slice a2 al.length m2) w0 h1 (by omega)
      rw [hla] at this
      exact this
    show Calls Tryz.prog 25 #[.agg #[.int .i64 id, .int .i64 k, .string tag, .string text, .slice a1 cl.length m1, .slice a2 al.length m2, .slice a3 sl.length m3, .slice a4 H.length m4]] w0 _
    have hgg : (STree.mk id k tag text cl al sl kids).ghost = ghB al := rfl
    unfold erO
    rw [hgg]
    generalize hg : ghB al = gb at *
    refine enter Tryz.func25 rfl Tryz.ntmps25 rfl (fun a hk => ?_); have hS := St.refl w0
    refine wpIn_seq ?_; refine wpIn_region_lit ?_
    refine st_box hk hS ?_; clear hk hS a; intro w b1 hS a hk
    refine st_alloc hk hS ?_; clear hk hS a; intro w b2 hS a hk
    (repeat' (first | (show wpListIn _ _ _ _ _ (_ :: _) _ _; first | (refine wx1 ?_; clear hk a; intro a hk) | (refine wx2 ?_ ?_ <;> (intro hp; clear hk a; intro a hk)) | (refine wx3 ?_; clear hk hS a; intro w b hS a hk) | (refine wx4 ?_; clear hk hS a; intro w hS a hk) | (refine wx5 ?_; clear hk hS a; intro w v hS a hk) | fail) | refine wx0 ?_ | (refine s_end hk ?_; clear hk a; intro a hk) | fail))
    refine sg hk (g_callO hk (hf := by kernel_rfl) (hc := hgt _ (hS.rdT c2)) (h := ?_)); clear hk a; rintro _ w ⟨rfl, hS1⟩ a hk; replace hS := hS.call0 hS1; clear hS1
    cases gb with
    | true =>
      (repeat' (first | (show wpListIn _ _ _ _ _ (_ :: _) _ _; first | (refine wx1 ?_; clear hk a; intro a hk) | (refine wx2 ?_ ?_ <;> (intro hp; clear hk a; intro a hk)) | (refine wx3 ?_; clear hk hS a; intro w b hS a hk) | (refine wx4 ?_; clear hk hS a; intro w hS a hk) | (refine wx5 ?_; clear hk hS a; intro w v hS a hk) | fail) | refine wx0 ?_ | (refine s_end hk ?_; clear hk a; intro a hk) | fail))
      refine done2R hk rfl (.str hS (hT := aT rfl) (hs := zT rfl)) (.tmp rfl) (h := ⟨zSn, rfl, ?_⟩)
      rw [if_pos rfl]
      exact sleaf 0 0 ⟨#[]⟩ ⟨#[]⟩ hS.nil
    | false =>
      rw [if_neg (by decide), erT]
      (repeat' (first | (show wpListIn _ _ _ _ _ (_ :: _) _ _; first | (refine wx1 ?_; clear hk a; intro a hk) | (refine wx2 ?_ ?_ <;> (intro hp; clear hk a; intro a hk)) | (refine wx3 ?_; clear hk hS a; intro w b hS a hk) | (refine wx4 ?_; clear hk hS a; intro w hS a hk) | (refine wx5 ?_; clear hk hS a; intro w v hS a hk) | fail) | refine wx0 ?_ | (refine s_end hk ?_; clear hk a; intro a hk) | fail))
      refine wp_drawn 10 mixed (by kernel_rfl) hk hS ?_; clear hk hS a
      (repeat' (first | (show ObxE _ _ _ _ _ _ _ _ _ (_ :: _) _ _ _; first | refine ox1 ?_ | (refine ox2 ?_ ?_ <;> intro hp) | fail) | fail))
      refine' obe_res (fun us a w hk hd hS => ?_) ?_; rotate_left; focus (have hk := Kn.vw hk (by repeat (first | exact VW.nil | apply VW.val rfl | apply VW.base rfl rfl | apply VW.res rfl | apply VW.upd rfl | apply VW.cpy rfl | apply VW.dep rfl | apply VW.fn rfl | apply VW.lnd rfl | apply VW.tak rfl)); exact g_callO hk (hf := by kernel_rfl) (hc := minec_any cl _ _ (hS.rdT c1) (by omega)) (h := fun _ _ h => h))
      (repeat' (first | (show ObxE _ _ _ _ _ _ _ _ _ (_ :: _) _ _ _; first | refine ox1 ?_ | (refine ox2 ?_ ?_ <;> intro hp) | fail) | fail))
      refine' obe_res (fun us a w hk hd hS => ?_) ?_; rotate_left; focus (have hk := Kn.vw hk (by repeat (first | exact VW.nil | apply VW.val rfl | apply VW.base rfl rfl | apply VW.res rfl | apply VW.upd rfl | apply VW.cpy rfl | apply VW.dep rfl | apply VW.fn rfl | apply VW.lnd rfl | apply VW.tak rfl)); exact g_callO hk (hf := by kernel_rfl) (hc := mineS_any al _ _ (hS.rdT c2) (by omega)) (h := fun _ _ h => h))
      (repeat' (first | (show ObxE _ _ _ _ _ _ _ _ _ (_ :: _) _ _ _; first | refine ox1 ?_ | (refine ox2 ?_ ?_ <;> intro hp) | fail) | fail))
      refine' obe_res (fun us a w hk hd hS => ?_) ?_; rotate_left; focus (have hk := Kn.vw hk (by repeat (first | exact VW.nil | apply VW.val rfl | apply VW.base rfl rfl | apply VW.res rfl | apply VW.upd rfl | apply VW.cpy rfl | apply VW.dep rfl | apply VW.fn rfl | apply VW.lnd rfl | apply VW.tak rfl)); exact g_callO hk (hf := by kernel_rfl) (hc := mineI_any sl _ _ (hS.rdT c3) (by omega)) (h := fun _ _ h => h))
      (repeat' (first | (show ObxE _ _ _ _ _ _ _ _ _ (_ :: _) _ _ _; first | refine ox1 ?_ | (refine ox2 ?_ ?_ <;> intro hp) | fail) | fail))
      refine obe_nil ⟨rfl, ?_⟩; intro us a w hk hS
      simp only [resE, List.cons_append, List.nil_append, Nat.zero_add, Nat.reduceAdd] at hS
      replace hk := Kn.kp [1, 2, 6, 23, 26, 29, 30] hk
      simp only [HV.of, Nat.zero_add, Nat.reduceAdd] at hk
      generalize us 2 = v23 at hS hk
      generalize us 5 = v26 at hS hk
      generalize us 8 = v29 at hS hk
      obtain ⟨aov23, cv23, hshp, _⟩ := (OwT.rd (hS.rd (A := OwT 9 _ v23) (by (repeat (first | exact At.here | apply At.there))))).shape; subst hshp
      obtain ⟨aov26, cv26, hshp, _⟩ := (OwT.rd (hS.rd (A := OwT 98 _ v26) (by (repeat (first | exact At.here | apply At.there))))).shape; subst hshp
      obtain ⟨aov29, cv29, hshp, _⟩ := (OwT.rd (hS.rd (A := OwT 103 _ v29) (by (repeat (first | exact At.here | apply At.there))))).shape; subst hshp
      have c4' := hS.rdT c4
      (repeat' (first | (show wpListIn _ _ _ _ _ (_ :: _) _ _; first | (refine wx1 ?_; clear hk a; intro a hk) | (refine wx2 ?_ ?_ <;> (intro hp; clear hk a; intro a hk)) | (refine wx3 ?_; clear hk hS a; intro w b hS a hk) | (refine wx4 ?_; clear hk hS a; intro w hS a hk) | (refine wx5 ?_; clear hk hS a; intro w v hS a hk) | fail) | refine wx0 ?_ | (refine s_end hk ?_; clear hk a; intro a hk) | fail))
      replace hS := sforR.nil (hS.nilT 39 SnH)
      replace hk := Kn.kp [1, 2, 34, 35, 36] hk
      refine wp_for H.length (fun i _ => [(36, .int .i64 (i : Int))]) (fun i v => [sforR (erL (kids.take i)) (v.2 : List SnH), OwT 39 v.2 (.slice v.1.1 v.2.length v.1.2), pts b1 [.int .i64 id, .int .i64 k, .string tag, .string text, .slice aov23 (mineC cl).length cv23, .slice aov26 (mineS al).length cv26, .slice aov29 (mineI sl).length cv29, .slice v.1.1 v.2.length v.1.2] 39, OwT 9 (mineC cl) (.slice aov23 (mineC cl).length cv23), OwT 98 (mineS al) (.slice aov26 (mineS al).length cv26), OwT 103 (mineI sl) (.slice aov29 (mineI sl).length cv29), pts b2 [.int .i64 0, .int .i64 0, .string ⟨#[]⟩, .string ⟨#[]⟩, .slice none 0 0, .slice none 0 0, .slice none 0 0, .slice none 0 0] 39]) (fun _ _ => True) (((none, 0), []) : (Option Addr × Nat) × List SnH) hk (by repeat (first | exact trivial | refine ⟨rfl, ?_⟩)) (hS.sub (by (repeat (first | exact Sub.nil | exact Sub.refl | refine Sub.cons (by (repeat (first | exact At.here | apply At.there))) ?_)))) trivial ?_
      clear hk hS a
      rintro j ⟨⟨ak, ck⟩, H'⟩ a w hj hk hS -
      have hFH := hS.soR .here
      have hkl := erL_len (kids.take j)
      rw [List.length_take] at hkl
      have hHl : H'.length = (erL (kids.take j)).length := hFH.1
      by_cases hjl : j < H.length
      · obtain ⟨tk, htk⟩ : ∃ t, kids[j]? = some t := ⟨_, List.getElem?_eq_getElem (by rw [← hF.1]; exact hjl)⟩
        obtain ⟨hd0, hx⟩ : ∃ x, H[j]? = some x := ⟨_, List.getElem?_eq_getElem hjl⟩
        have hTr := hF.2 j tk hd0 htk hx
        have hfk := l5 tk (List.mem_of_getElem? htk)
        have hlt : SizeOf.sizeOf tk < n := by have := skid_lt (id := id) (k := k) (tag := tag) (text := text) (cl := cl) (at_ := al) (st := sl) (List.mem_of_getElem? htk); omega
        have hst : erL (kids.take (j + 1)) = if tk.ghost = true then erL (kids.take j) else erL (kids.take j) ++ [erT tk] := by rw [take_snoc htk, erL_snoc]
        have c4'' := hS.rdT c4
        simp only at hS hk
        obtain ⟨id', k', tag', text', ⟨x1, x2, x3⟩, ⟨y1, y2, y3⟩, ⟨z1, z2, z3⟩, ⟨u1, u2, u3⟩⟩ := hd0
        (repeat' (first | (show wpListIn _ _ _ _ _ (_ :: _) _ _; first | (refine wx1 ?_; clear hk a; intro a hk) | (refine wx2 ?_ ?_ <;> (intro hp; clear hk a; intro a hk)) | (refine wx3 ?_; clear hk hS a; intro w b hS a hk) | (refine wx4 ?_; clear hk hS a; intro w hS a hk) | (refine wx5 ?_; clear hk hS a; intro w v hS a hk) | fail) | refine wx0 ?_ | (refine s_end hk ?_; clear hk a; intro a hk) | fail))
        refine sg hk (g_callO hk (hf := by kernel_rfl) (hc := ih tk (id', k', tag', text', ⟨x1, x2, x3⟩, ⟨y1, y2, y3⟩, ⟨z1, z2, z3⟩, ⟨u1, u2, u3⟩) _ hlt hfk (hS.rdSr hTr)) (h := ?_)); clear hk a; rintro vr w ⟨⟨id2, k2, tag2, text2, ⟨x12, x22, x32⟩, ⟨y12, y22, y32⟩, ⟨z12, z22, z32⟩, ⟨u12, u22, u32⟩⟩, rfl, hS1⟩ a hk; replace hS := hS.call hS1; clear hS1
        rw [List.cons_append, List.nil_append] at hS
        unfold erO at hS
        generalize hgk : tk.ghost = gk at *
        cases gk with
        | true =>
          rw [if_pos rfl] at hst
          rw [← hst] at hS
          (repeat' (first | (show wpListIn _ _ _ _ _ (_ :: _) _ _; first | (refine wx1 ?_; clear hk a; intro a hk) | (refine wx2 ?_ ?_ <;> (intro hp; clear hk a; intro a hk)) | (refine wx3 ?_; clear hk hS a; intro w b hS a hk) | (refine wx4 ?_; clear hk hS a; intro w hS a hk) | (refine wx5 ?_; clear hk hS a; intro w v hS a hk) | fail) | refine wx0 ?_ | (refine s_end hk ?_; clear hk a; intro a hk) | fail))
          exact ⟨hjl, ((ak, ck), H'), hk.sd, hS.sub (by (repeat (first | exact Sub.nil | exact Sub.refl | refine Sub.cons (by (repeat (first | exact At.here | apply At.there))) ?_))), trivial⟩
        | false =>
          rw [if_neg (by decide)] at hst hS
          (repeat' (first | (show wpListIn _ _ _ _ _ (_ :: _) _ _; first | (refine wx1 ?_; clear hk a; intro a hk) | (refine wx2 ?_ ?_ <;> (intro hp; clear hk a; intro a hk)) | (refine wx3 ?_; clear hk hS a; intro w b hS a hk) | (refine wx4 ?_; clear hk hS a; intro w hS a hk) | (refine wx5 ?_; clear hk hS a; intro w v hS a hk) | fail) | refine wx0 ?_ | (refine s_end hk ?_; clear hk a; intro a hk) | fail))
          refine sg hk (g_bsT (xs := [((id2, k2, tag2, text2, ⟨x12, x22, x32⟩, ⟨y12, y22, y32⟩, ⟨z12, z22, z32⟩, ⟨u12, u22, u32⟩) : SnH)]) (m := 0) hk hS ?_ (hT := eT rfl) (hE := zT rfl) (hz := oT rfl)); clear hk hS a; intro w ve hS a hk
          (repeat' (first | (show wpListIn _ _ _ _ _ (_ :: _) _ _; first | (refine wx1 ?_; clear hk a; intro a hk) | (refine wx2 ?_ ?_ <;> (intro hp; clear hk a; intro a hk)) | (refine wx3 ?_; clear hk hS a; intro w b hS a hk) | (refine wx4 ?_; clear hk hS a; intro w hS a hk) | (refine wx5 ?_; clear hk hS a; intro w v hS a hk) | fail) | refine wx0 ?_ | (refine s_end hk ?_; clear hk a; intro a hk) | fail))
          generalize hHD : ((id2, k2, tag2, text2, ⟨x12, x22, x32⟩, ⟨y12, y22, y32⟩, ⟨z12, z22, z32⟩, ⟨u12, u22, u32⟩) : SnH) = hd1 at hS
          rename Value => vn
          obtain ⟨aovn, cvn, hshp, _⟩ := (OwT.rd (hS.rd (A := OwT 39 _ vn) (by (repeat (first | exact At.here | apply At.there))))).shape; subst hshp
          (repeat' (first | (show wpListIn _ _ _ _ _ (_ :: _) _ _; first | (refine wx1 ?_; clear hk a; intro a hk) | (refine wx2 ?_ ?_ <;> (intro hp; clear hk a; intro a hk)) | (refine wx3 ?_; clear hk hS a; intro w b hS a hk) | (refine wx4 ?_; clear hk hS a; intro w hS a hk) | (refine wx5 ?_; clear hk hS a; intro w v hS a hk) | fail) | refine wx0 ?_ | (refine s_end hk ?_; clear hk a; intro a hk) | fail))
          have hS1 := sforR.snoc (L := [OwT 39 (H' ++ [hd1]) (.slice aovn (H' ++ [hd1]).length cvn), pts b1 [.int .i64 id, .int .i64 k, .string tag, .string text, .slice aov23 (mineC cl).length cv23, .slice aov26 (mineS al).length cv26, .slice aov29 (mineI sl).length cv29, .slice aovn (H' ++ [hd1]).length cvn] 39, OwT 9 (mineC cl) (.slice aov23 (mineC cl).length cv23), OwT 98 (mineS al) (.slice aov26 (mineS al).length cv26), OwT 103 (mineI sl) (.slice aov29 (mineI sl).length cv29), pts b2 [.int .i64 0, .int .i64 0, .string ⟨#[]⟩, .string ⟨#[]⟩, .slice none 0 0, .slice none 0 0, .slice none 0 0, .slice none 0 0] 39])  (ts := erL (kids.take j)) (H := H') (t := erT tk) (h := hd1) (hS.sub (by (repeat (first | exact Sub.nil | exact Sub.refl | refine Sub.cons (by (repeat (first | exact At.here | apply At.there))) ?_))))
          rw [← hst] at hS1
          exact ⟨hjl, ((aovn, cvn), H' ++ [hd1]), hk.sd, hS1, trivial⟩
      · have hjj : j = kids.length := by have := hF.1; omega
        subst hjj
        rw [List.take_length] at hS
        simp only at hS hk
        (repeat' (first | (show wpListIn _ _ _ _ _ (_ :: _) _ _; first | (refine wx1 ?_; clear hk a; intro a hk) | (refine wx2 ?_ ?_ <;> (intro hp; clear hk a; intro a hk)) | (refine wx3 ?_; clear hk hS a; intro w b hS a hk) | (refine wx4 ?_; clear hk hS a; intro w hS a hk) | (refine wx5 ?_; clear hk hS a; intro w v hS a hk) | fail) | refine wx0 ?_ | (refine s_end hk ?_; clear hk a; intro a hk) | fail))
        exact done2R hk rfl (.str hS (hT := aT rfl) (hs := zT rfl)) (.tmp rfl) (h := ⟨(id, k, tag, text, ⟨aov23, (mineC cl).length, cv23⟩, ⟨aov26, (mineS al).length, cv26⟩, ⟨aov29, (mineI sl).length, cv29⟩, ⟨ak, H'.length, ck⟩), rfl, streeR.of (A1 := OwT 9 (mineC cl) (.slice aov23 (mineC cl).length cv23)) (A2 := OwT 98 (mineS al) (.slice aov26 (mineS al).length cv26)) (A3 := OwT 103 (mineI sl) (.slice aov29 (mineI sl).length cv29)) (A4 := OwT 39 H' (.slice ak H'.length ck)) (hS.sub (by (repeat (first | exact Sub.nil | exact Sub.refl | refine Sub.cons (by (repeat (first | exact At.here | apply At.there))) ?_))))⟩)
end Go.Proofs.YtkcjkbnbblpomaaGreatDoor
namespace Go.Proofs.YtkcjkbnbblpomaaGreatDoor
open Go.RowKit
set_option maxRecDepth 100000
attribute [local irreducible] Go.Code.wpIn Go.wpListIn Go.Calls Gives Go.Exit.then Go.Exit.inBlock Done ObxE

def ownS (l : List PrS) : List PrS := l.filter (fun x => !rsvS x.1)
def ownI (l : List PrI) : List PrI := l.filter (fun x => !rsvS x.1)
end Go.Proofs.YtkcjkbnbblpomaaGreatDoor
namespace Go.Proofs.YtkcjkbnbblpomaaGreatDoor
open Go.RowKit
set_option maxRecDepth 100000
attribute [local irreducible] Go.Code.wpIn Go.wpListIn Go.Calls Gives Go.Exit.then Go.Exit.inBlock Done ObxE

end Go.Proofs.YtkcjkbnbblpomaaGreatDoor
