/- Layer 9: a tree of a view's nodes, with numbers; nodes of a tree, found, in plain words. Layer 9, plain: trees that are told apart by their texts. Layer 9, plain: without what is reserved. Layer 7: how great, how deep a view is, in plain words. Layer 7: views as they are shown, shown again; what is kept of a view that may be; in plain words. -/
import Derived.Test.YtkcjkbnbblpomaaGreatDoorT17
import Derived.Test.YtkcjkbnbblpomaaGreatDoorT16
import Derived.Test.YtkcjkbnbblpomaaGreatDoorT21
import Derived.Test.YtkcjkbnbblpomaaGreatDoorT19
import Derived.Test.YtkcjkbnbblpomaaGreatDoorT18
import Derived.Test.YtkcjkbnbblpomaaGreatDoorT25
set_option linter.all false
namespace Go.Proofs.YtkcjkbnbblpomaaGreatDoor
open Go.RowKit

mutual
def frm : Tree → Int → STree
  | .mk k tag _ text cl al sl _ kids, n => .mk n (min k 2) tag text cl (snapF nmS al) (snapF nmI sl) (frmL kids (n + 1))
def frmL : List Tree → Int → List STree
  | [], _ => []
  | t :: ts, n => frm t n :: frmL ts (n + (cnt t : Int))
end
mutual
theorem frm_pre : ∀ (t : Tree) (n : Int), (preT (frm t n)).length = cnt t
  | .mk ki tag key text cl al sl o kids, n => by
    rw [frm, preT, List.length_cons, frmL_pre kids, cnt]
theorem frmL_pre : ∀ (ts : List Tree) (n : Int), (preL (frmL ts n)).length = cntL ts
  | [], n => by simp [frmL, preL, cntL]
  | t :: ts, n => by rw [frmL, preL, List.length_append, frm_pre t, frmL_pre ts, cntL]
end

def fndT (t : STree) (id : Int) : Option STree := (preT t).find? (fun x => decide (x.id = id))
def fndP (id : Int) (s : Option STree) (x : STree) : Bool × Option STree := (!decide (x.id = id), if x.id = id then some x else s)
mutual
theorem preT_lt : ∀ (t x : STree), x ∈ preT t → (preT x).length ≤ (preT t).length ∧ (SFits t → SFits x)
  | .mk id k tag text cl al sl kids, x, h => by
    rw [preT, List.mem_cons] at h
    rcases h with rfl | h
    · exact ⟨Nat.le_refl _, fun hf => hf⟩
    · have := preL_lt kids x h
      refine ⟨by rw [preT, List.length_cons]; omega, fun hf => ?_⟩
      cases hf with
      | mk _ _ _ _ h5 => exact this.2 h5
theorem preL_lt : ∀ (ts : List STree) (x : STree), x ∈ preL ts → (preT x).length ≤ (preL ts).length ∧ ((∀ t ∈ ts, SFits t) → SFits x)
  | [], x, h => by simp [preL] at h
  | t :: ts, x, h => by
    rw [preL, List.mem_append] at h
    rw [preL, List.length_append]
    rcases h with h | h
    · have := preT_lt t x h
      exact ⟨by omega, fun hf => this.2 (hf t (by simp))⟩
    · have := preL_lt ts x h
      exact ⟨by omega, fun hf => this.2 fun u hu => hf u (by simp [hu])⟩
end
end Go.Proofs.YtkcjkbnbblpomaaGreatDoor
namespace Go.Proofs.YtkcjkbnbblpomaaGreatDoor
open Go.RowKit

theorem span_eq (p : UInt8 → Bool) : ∀ (x y : List UInt8) (c d : UInt8) (r r' : List UInt8), x.all p = true → y.all p = true → p c = false → p d = false → x ++ c :: r = y ++ d :: r' → x = y ∧ c = d ∧ r = r'
  | [], [], c, d, r, r', _, _, _, _, h => by simpa using h
  | [], b :: y, c, d, r, r', _, hy, hc, _, h => by
    simp only [List.nil_append, List.cons_append, List.cons.injEq] at h
    rw [List.all_cons, ← h.1, hc] at hy
    simp at hy
  | a :: x, [], c, d, r, r', hx, _, _, hd, h => by
    simp only [List.nil_append, List.cons_append, List.cons.injEq] at h
    rw [List.all_cons, h.1, hd] at hx
    simp at hx
  | a :: x, b :: y, c, d, r, r', hx, hy, hc, hd, h => by
    simp only [List.cons_append, List.cons.injEq] at h
    rw [List.all_cons, Bool.and_eq_true] at hx hy
    obtain ⟨h1, h2, h3⟩ := span_eq p x y c d r r' hx.2 hy.2 hc hd h.2
    exact ⟨by rw [h.1, h1], h2, h3⟩
def Stp (r : List UInt8) : Prop := ∃ c q, r = c :: q ∧ (c = 32 ∨ c = 41)
theorem span_stp (p : UInt8 → Bool) (h1 : p 32 = false) (h2 : p 41 = false) {x y r r' : List UInt8} (hx : x.all p = true) (hy : y.all p = true) (hr : Stp r) (hr' : Stp r') (h : x ++ r = y ++ r') : x = y ∧ r = r' := by
  obtain ⟨c, q, rfl, hc⟩ := hr
  obtain ⟨d, q', rfl, hd⟩ := hr'
  have e1 : p c = false := by rcases hc with rfl | rfl <;> assumption
  have e2 : p d = false := by rcases hd with rfl | rfl <;> assumption
  obtain ⟨h3, h4, h5⟩ := span_eq p x y c d q q' hx hy e1 e2 h
  exact ⟨h3, by rw [h4, h5]⟩
def joinF {α : Type} (f : α → List UInt8) (l : List α) : List UInt8 := l.flatMap (fun x => 32 :: f x)
theorem joinF_cons {α : Type} (f : α → List UInt8) (x : α) (l : List α) : joinF f (x :: l) = 32 :: (f x ++ joinF f l) := by simp [joinF]
theorem joinF_stp {α : Type} (f : α → List UInt8) (l : List α) {r : List UInt8} (hr : Stp r) : Stp (joinF f l ++ r) := by
  cases l with
  | nil => exact hr
  | cons x l => rw [joinF_cons]; exact ⟨32, _, rfl, .inl rfl⟩
def NSt (q : UInt8 → Bool) (r : List UInt8) : Prop := ∀ c t, r = 32 :: c :: t → q c = false
theorem joinF_nst {α : Type} {q : UInt8 → Bool} {f : α → List UInt8} {l : List α} {r : List UInt8} (hl : ∀ x ∈ l, ∃ c t, f x = c :: t ∧ q c = false) (hr : NSt q r) : NSt q (joinF f l ++ r) := by
  cases l with
  | nil => exact hr
  | cons x l =>
    obtain ⟨c, t, e, hc⟩ := hl x (by simp)
    intro c' t' e'
    rw [joinF_cons, e] at e'
    simp only [List.cons_append, List.cons.injEq, true_and] at e'
    rw [← e'.1]; exact hc
def all2 {α : Type} (R : α → α → Prop) : List α → List α → Prop
  | [], [] => True
  | x :: l, y :: m => R x y ∧ all2 R l m
  | [], _ :: _ => False
  | _ :: _, [] => False
theorem all2_eq {α : Type} : ∀ {l m : List α}, all2 (· = ·) l m → l = m
  | [], [], _ => rfl
  | x :: l, y :: m, h => by rw [h.1, all2_eq h.2]
theorem items_eq {α : Type} (f : α → List UInt8) (q : UInt8 → Bool) (R : α → α → Prop) : ∀ (l m : List α) (r r' : List UInt8),
    (∀ x ∈ l, ∃ c t, f x = c :: t ∧ q c = true) → (∀ x ∈ m, ∃ c t, f x = c :: t ∧ q c = true) →
    (∀ x ∈ l, ∀ y ∈ m, ∀ s s', Stp s → Stp s' → f x ++ s = f y ++ s' → R x y ∧ s = s') →
    Stp r → Stp r' → NSt q r → NSt q r' → joinF f l ++ r = joinF f m ++ r' → all2 R l m ∧ r = r'
  | [], [], r, r', _, _, _, _, _, _, _, h => ⟨trivial, h⟩
  | [], y :: m, r, r', _, hm, _, _, _, hn, _, h => by
    obtain ⟨c, t, e, hc⟩ := hm y (by simp)
    rw [joinF_cons, e] at h
    have := hn c _ h
    rw [hc] at this
    exact absurd this (by decide)
  | x :: l, [], r, r', hl, _, _, _, _, _, hn, h => by
    obtain ⟨c, t, e, hc⟩ := hl x (by simp)
    rw [joinF_cons, e] at h
    have := hn c _ h.symm
    rw [hc] at this
    exact absurd this (by decide)
  | x :: l, y :: m, r, r', hl, hm, hu, h1, h2, h3, h4, h => by
    rw [joinF_cons, joinF_cons] at h
    simp only [List.cons_append, List.cons.injEq, true_and, List.append_assoc] at h
    obtain ⟨h5, h6⟩ := hu x (by simp) y (by simp) _ _ (joinF_stp f l h1) (joinF_stp f m h2) h
    obtain ⟨h7, h8⟩ := items_eq f q R l m r r' (fun x hx => hl x (by simp [hx])) (fun x hx => hm x (by simp [hx])) (fun x hx y hy => hu x (by simp [hx]) y (by simp [hy])) h1 h2 h3 h4 h6
    exact ⟨⟨h5, h7⟩, h8⟩

inductive VT : STree → Prop
  | mk {id k : Int} {tag text : ByteArray} {cl : List ByteArray} {al : List (ByteArray × ByteArray)} {sl : List (ByteArray × Int)} {kids : List STree}
    (h : (k = 1 ∧ text.data.toList.all priB = true ∧ tag = ⟨#[]⟩ ∧ cl = [] ∧ al = [] ∧ sl = [] ∧ kids = []) ∨
      (k = 2 ∧ text = ⟨#[]⟩ ∧ tag.data.toList.all plaB = true ∧ (∀ c ∈ cl, c.data.toList.all plaB = true) ∧ (∀ x ∈ al, x.1.data.toList.all plaB = true ∧ x.2.data.toList.all visB = true) ∧ (∀ x ∈ sl, nameS x.1 = true)))
    (hk : ∀ t ∈ kids, VT t) : VT (.mk id k tag text cl al sl kids)
def shB (t : STree) : List UInt8 := (showT false t).data.toList
def dotB (c : ByteArray) : List UInt8 := 46 :: c.data.toList
def attB (x : ByteArray × ByteArray) : List UInt8 := 64 :: (x.1.data.toList ++ 61 :: x.2.data.toList)
def styB (x : ByteArray × Int) : List UInt8 := x.1.data.toList ++ 61 :: Lib.itoa x.2
theorem bs_app (a b : ByteArray) : (a ++ b).data.toList = a.data.toList ++ b.data.toList := by rw [ByteArray.data_append, Array.toList_append]
theorem joinT_app (a b : List ByteArray) : joinT (a ++ b) = joinT a ++ joinT b := by simp [joinT]
theorem joinT_F {α : Type} (g : α → ByteArray) (l : List α) : joinT (l.map g) = joinF (fun x => (g x).data.toList) l := by
  unfold joinT joinF
  rw [List.flatMap_map]
theorem shB_txt {id : Int} {tag text : ByteArray} {cl : List ByteArray} {al : List (ByteArray × ByteArray)} {sl : List (ByteArray × Int)} {kids : List STree} :
    shB (.mk id 1 tag text cl al sl kids) = 39 :: (text.data.toList ++ [39]) := by
  unfold shB
  rw [showT, if_pos rfl]
  simp only [bs_app, lblS]
  rfl
theorem shB_elm {id k : Int} {tag text : ByteArray} {cl : List ByteArray} {al : List (ByteArray × ByteArray)} {sl : List (ByteArray × Int)} {kids : List STree} (hk : k ≠ 1) :
    shB (.mk id k tag text cl al sl kids) = 40 :: (tag.data.toList ++ (joinF dotB cl ++ (joinF attB al ++ (joinF styB sl ++ (joinF shB kids ++ [41]))))) := by
  have e1 : (fun c => (dotS c).data.toList) = dotB := by funext c; simp only [dotS, bs_app]; rfl
  have e2 : (fun x => (attS x).data.toList) = attB := by funext c; simp only [attS, bs_app, attB]; simp
  have e3 : (fun x => (styS x).data.toList) = styB := by funext c; simp only [styS, bs_app, styB, ito_list]; simp
  unfold shB
  rw [showT, if_neg hk, hdL, showL_map]
  simp only [bs_app, List.cons_append, joinL, joinT_app, joinT_F, lblS, e1, e2, e3]
  simp [shB]
theorem ito_chars (n : Int) : (Lib.itoa n).all (fun b => digB b || decide (b = 45)) = true := by
  obtain ⟨-, f2, -⟩ := dec_facts n.natAbs
  have h : (Lib.decDigits n.natAbs).all (fun b => digB b || decide (b = 45)) = true := by
    rw [List.all_eq_true] at f2 ⊢
    intro b hb
    rw [f2 b hb]; rfl
  unfold Lib.itoa
  split
  · rw [List.all_cons, h]; rfl
  · rw [show n.toNat = n.natAbs by omega]; exact h
theorem ba_ext {a b : ByteArray} (h : a.data.toList = b.data.toList) : a = b := by
  cases a; cases b
  congr 1
  exact Array.toList_inj.1 h
theorem ito_eq {n m : Int} (h : Lib.itoa n = Lib.itoa m) : n = m := by rw [← num_ito n, h, num_ito]
theorem all2_samSL {l m : List STree} (h : all2 (fun t u => eqS t u = true) l m) : eqSL l m = true := by
  induction l generalizing m with
  | nil => cases m with
    | nil => simp [eqSL]
    | cons => exact h.elim
  | cons x l ih => cases m with
    | nil => exact h.elim
    | cons y m => rw [eqSL, h.1, ih h.2]; rfl
theorem sh_first (t : STree) : ∃ c r, shB t = c :: r ∧ (c = 39 ∨ c = 40) := by
  cases t with
  | mk id k tag text cl al sl kids =>
    by_cases hk : k = 1
    · subst hk; exact ⟨39, _, shB_txt, .inl rfl⟩
    · exact ⟨40, _, shB_elm hk, .inr rfl⟩
theorem sty_first {x : ByteArray × Int} (h : nameS x.1 = true) : ∃ c t, styB x = c :: t ∧ letB c = true := by
  unfold nameS at h
  unfold styB
  cases hl : x.1.data.toList with
  | nil => rw [hl] at h; simp at h
  | cons a r =>
    rw [hl] at h
    simp only [Bool.and_eq_true] at h
    exact ⟨a, _, rfl, h.2⟩
theorem name_plain {s : ByteArray} (h : nameS s = true) : s.data.toList.all plaB = true := by
  unfold nameS keyS at h
  simp only [Bool.and_eq_true] at h
  exact h.1.2
theorem showsP : ∀ (n : Nat) (t u : STree), SizeOf.sizeOf t < n → VT t → VT u → ∀ r r', shB t ++ r = shB u ++ r' → eqS t u = true ∧ r = r'
  | 0, _, _, h, _, _, _, _, _ => by omega
  | n + 1, .mk id k tag text cl al sl kids, .mk id' k' tag' text' cl' al' sl' kids', hn, ht, hu, r, r', h => by
    obtain ⟨h1, hk⟩ := ht
    obtain ⟨h2, hk'⟩ := hu
    rcases h1 with ⟨rfl, a1, rfl, rfl, rfl, rfl, rfl⟩ | ⟨rfl, rfl, a2, a3, a4, a5⟩
    · rcases h2 with ⟨rfl, b1, rfl, rfl, rfl, rfl, rfl⟩ | ⟨rfl, rfl, b2, b3, b4, b5⟩
      · rw [shB_txt, shB_txt] at h
        simp only [List.cons_append, List.cons.injEq, true_and, List.append_assoc, List.nil_append] at h
        obtain ⟨c1, -, c2⟩ := span_eq priB _ _ _ _ _ _ a1 b1 (by decide) (by decide) h
        exact ⟨eqS_iff.2 ⟨⟨rfl, rfl, ba_ext c1, rfl, rfl, rfl⟩, by simp [eqSL]⟩, c2⟩
      · rw [shB_txt, shB_elm (by decide)] at h
        simp only [List.cons_append, List.cons.injEq] at h
        exact absurd h.1 (by decide)
    · rcases h2 with ⟨rfl, b1, rfl, rfl, rfl, rfl, rfl⟩ | ⟨rfl, rfl, b2, b3, b4, b5⟩
      · rw [shB_txt, shB_elm (by decide)] at h
        simp only [List.cons_append, List.cons.injEq] at h
        exact absurd h.1 (by decide)
      · rw [shB_elm (by decide), shB_elm (by decide)] at h
        simp only [List.cons_append, List.cons.injEq, true_and, List.append_assoc, List.nil_append] at h
        have s0 : ∀ q : List UInt8, Stp (41 :: q) := fun q => ⟨41, q, rfl, .inr rfl⟩
        have n0 : ∀ (q : UInt8 → Bool) (z : List UInt8), NSt q (41 :: z) := fun q z c t e => by simp at e
        have nK : ∀ (q : UInt8 → Bool) (ks : List STree) (z : List UInt8), q 39 = false → q 40 = false → NSt q (joinF shB ks ++ 41 :: z) := fun q ks z q1 q2 =>
          joinF_nst (fun x _ => by obtain ⟨c, t, e, hc⟩ := sh_first x; exact ⟨c, t, e, by rcases hc with rfl | rfl <;> assumption⟩) (n0 q z)
        have nS : ∀ (q : UInt8 → Bool) (l : List (ByteArray × Int)) (z : List UInt8), (∀ x ∈ l, nameS x.1 = true) → (∀ c, letB c = true → q c = false) → NSt q z → NSt q (joinF styB l ++ z) := fun q l z hl hq hz =>
          joinF_nst (fun x hx => by obtain ⟨c, t, e, hc⟩ := sty_first (hl x hx); exact ⟨c, t, e, hq c hc⟩) hz
        have nA : ∀ (q : UInt8 → Bool) (l : List (ByteArray × ByteArray)) (z : List UInt8), q 64 = false → NSt q z → NSt q (joinF attB l ++ z) := fun q l z hq hz =>
          joinF_nst (fun x _ => ⟨64, _, rfl, hq⟩) hz
        obtain ⟨c1, h⟩ := span_stp plaB (by decide) (by decide) a2 b2 (joinF_stp _ _ (joinF_stp _ _ (joinF_stp _ _ (joinF_stp _ _ (s0 _))))) (joinF_stp _ _ (joinF_stp _ _ (joinF_stp _ _ (joinF_stp _ _ (s0 _))))) h
        have hl46 : ∀ c, letB c = true → (fun b : UInt8 => decide (b = 46)) c = false := by
          intro c hc
          simp only [decide_eq_false_iff_not]
          rintro rfl
          exact absurd hc (by decide)
        have hl64 : ∀ c, letB c = true → (fun b : UInt8 => decide (b = 64)) c = false := by
          intro c hc
          simp only [decide_eq_false_iff_not]
          rintro rfl
          exact absurd hc (by decide)
        obtain ⟨c2, h⟩ := items_eq dotB (fun b => decide (b = 46)) (· = ·) cl cl' _ _ (fun x _ => ⟨46, _, rfl, rfl⟩) (fun x _ => ⟨46, _, rfl, rfl⟩)
          (fun x hx y hy s s' hs hs' e => by
            simp only [dotB, List.cons_append, List.cons.injEq, true_and] at e
            obtain ⟨e1, e2⟩ := span_stp plaB (by decide) (by decide) (a3 x hx) (b3 y hy) hs hs' e
            exact ⟨ba_ext e1, e2⟩)
          (joinF_stp _ _ (joinF_stp _ _ (joinF_stp _ _ (s0 _)))) (joinF_stp _ _ (joinF_stp _ _ (joinF_stp _ _ (s0 _))))
          (nA _ _ _ (by decide) (nS _ _ _ a5 hl46 (nK _ _ _ (by decide) (by decide)))) (nA _ _ _ (by decide) (nS _ _ _ b5 hl46 (nK _ _ _ (by decide) (by decide)))) h
        obtain ⟨c3, h⟩ := items_eq attB (fun b => decide (b = 64)) (· = ·) al al' _ _ (fun x _ => ⟨64, _, rfl, rfl⟩) (fun x _ => ⟨64, _, rfl, rfl⟩)
          (fun x hx y hy s s' hs hs' e => by
            simp only [attB, List.cons_append, List.cons.injEq, true_and, List.append_assoc] at e
            obtain ⟨e1, -, e2⟩ := span_eq plaB _ _ _ _ _ _ (a4 x hx).1 (b4 y hy).1 (by decide) (by decide) e
            obtain ⟨e3, e4⟩ := span_stp visB (by decide) (by decide) (a4 x hx).2 (b4 y hy).2 hs hs' e2
            exact ⟨Prod.ext (ba_ext e1) (ba_ext e3), e4⟩)
          (joinF_stp _ _ (joinF_stp _ _ (s0 _))) (joinF_stp _ _ (joinF_stp _ _ (s0 _)))
          (nS _ _ _ a5 hl64 (nK _ _ _ (by decide) (by decide))) (nS _ _ _ b5 hl64 (nK _ _ _ (by decide) (by decide))) h
        obtain ⟨c4, h⟩ := items_eq styB letB (· = ·) sl sl' _ _ (fun x hx => sty_first (a5 x hx)) (fun x hx => sty_first (b5 x hx))
          (fun x hx y hy s s' hs hs' e => by
            simp only [styB, List.cons_append, List.append_assoc] at e
            obtain ⟨e1, -, e2⟩ := span_eq plaB _ _ _ _ _ _ (name_plain (a5 x hx)) (name_plain (b5 y hy)) (by decide) (by decide) e
            obtain ⟨e3, e4⟩ := span_stp (fun b => digB b || decide (b = 45)) (by decide) (by decide) (ito_chars _) (ito_chars _) hs hs' e2
            exact ⟨Prod.ext (ba_ext e1) (ito_eq e3), e4⟩)
          (joinF_stp _ _ (s0 _)) (joinF_stp _ _ (s0 _))
          (nK _ _ _ (by decide) (by decide)) (nK _ _ _ (by decide) (by decide)) h
        obtain ⟨c5, h⟩ := items_eq shB (fun b => decide (b = 39 ∨ b = 40)) (fun t u => eqS t u = true) kids kids' (41 :: r) (41 :: r')
          (fun x _ => by obtain ⟨c, t, e, hc⟩ := sh_first x; exact ⟨c, t, e, by simpa using hc⟩) (fun x _ => by obtain ⟨c, t, e, hc⟩ := sh_first x; exact ⟨c, t, e, by simpa using hc⟩)
          (fun x hx y hy s s' _ _ e => showsP n x y (by have := skid_lt (id := id) (k := 2) (tag := tag) (text := ⟨#[]⟩) (cl := cl) (at_ := al) (st := sl) hx; omega) (hk x hx) (hk' y hy) s s' e)
          (s0 _) (s0 _) (n0 _ _) (n0 _ _) h
        simp only [List.cons.injEq, true_and] at h
        exact ⟨eqS_iff.2 ⟨⟨rfl, ba_ext c1, rfl, all2_eq c2, all2_eq c3, all2_eq c4⟩, all2_samSL c5⟩, h⟩
inductive SRis : STree → Prop
  | mk {id k : Int} {tag text : ByteArray} {cl : List ByteArray} {al : List (ByteArray × ByteArray)} {sl : List (ByteArray × Int)} {kids : List STree}
    (h1 : snapF nmS al = al) (h2 : snapF nmI sl = sl) (hk : ∀ t ∈ kids, SRis t) : SRis (.mk id k tag text cl al sl kids)
theorem sam_eqS : ∀ (n : Nat) (t u : STree), SizeOf.sizeOf t < n → SRis t → SRis u → samS t u = eqS t u
  | 0, _, _, h, _, _ => by omega
  | n + 1, .mk id k tag text cl al sl kids, .mk id' k' tag' text' cl' al' sl' kids', hn, ht, hu => by
    obtain ⟨h1, h2, hk⟩ := ht
    obtain ⟨h3, h4, hk'⟩ := hu
    rw [Bool.eq_iff_iff, samS_iff, eqS_iff, h1, h2, h3, h4, samSL_iff, eqSL_iff]
    constructor
    · rintro ⟨e1, e2, e3⟩
      refine ⟨e1, e2, fun i a b ha hb => ?_⟩
      rw [← sam_eqS n a b (by have := skid_lt (id := id) (k := k) (tag := tag) (text := text) (cl := cl) (at_ := al) (st := sl) (List.mem_of_getElem? ha); omega) (hk a (List.mem_of_getElem? ha)) (hk' b (List.mem_of_getElem? hb))]
      exact e3 i a b ha hb
    · rintro ⟨e1, e2, e3⟩
      refine ⟨e1, e2, fun i a b ha hb => ?_⟩
      rw [sam_eqS n a b (by have := skid_lt (id := id) (k := k) (tag := tag) (text := text) (cl := cl) (at_ := al) (st := sl) (List.mem_of_getElem? ha); omega) (hk a (List.mem_of_getElem? ha)) (hk' b (List.mem_of_getElem? hb))]
      exact e3 i a b ha hb
theorem same_eqS {t u : STree} (ht : SRis t) (hu : SRis u) : samS t u = eqS t u := sam_eqS _ t u (Nat.lt_succ_self _) ht hu
theorem eq_show : ∀ (n : Nat) (t u : STree), SizeOf.sizeOf t < n → eqS t u = true → showT false t = showT false u
  | 0, _, _, h, _ => by omega
  | n + 1, .mk id k tag text cl al sl kids, .mk id' k' tag' text' cl' al' sl' kids', hn, he => by
    obtain ⟨⟨rfl, rfl, rfl, rfl, rfl, rfl⟩, hL⟩ := eqS_iff.1 he
    obtain ⟨h1, h2⟩ := (eqSL_iff _ _).1 hL
    have hs : showL false kids = showL false kids' := by
      rw [showL_map, showL_map]
      apply List.ext_getElem?
      intro i
      rw [List.getElem?_map, List.getElem?_map]
      rcases Nat.lt_or_ge i kids.length with hi | hi
      · obtain ⟨a, ha⟩ : ∃ a, kids[i]? = some a := ⟨_, List.getElem?_eq_getElem hi⟩
        obtain ⟨b, hb⟩ : ∃ b, kids'[i]? = some b := ⟨_, List.getElem?_eq_getElem (by omega)⟩
        rw [ha, hb]
        simp only [Option.map_some]
        rw [eq_show n a b (by have := skid_lt (id := id) (k := k) (tag := tag) (text := text) (cl := cl) (at_ := al) (st := sl) (List.mem_of_getElem? ha); omega) (h2 i a b ha hb)]
      · rw [List.getElem?_eq_none hi, List.getElem?_eq_none (by omega)]
    rw [showT, showT, hs]
    simp only [hdL, lblS, Bool.false_eq_true, if_false]
theorem show_sam {t u : STree} (ht : VT t) (hu : VT u) (hr : SRis t) (hr' : SRis u) : (showT false t = showT false u) ↔ samS t u = true := by
  rw [same_eqS hr hr']
  constructor
  · intro h
    exact (showsP _ t u (Nat.lt_succ_self _) ht hu [] [] (by unfold shB; rw [h])).1
  · exact eq_show _ t u (Nat.lt_succ_self _)
end Go.Proofs.YtkcjkbnbblpomaaGreatDoor
namespace Go.Proofs.YtkcjkbnbblpomaaGreatDoor
open Go.RowKit

def ghS : ByteArray := ⟨#[116, 45, 103, 104, 111, 115, 116]⟩
def ghB (al : List (ByteArray × ByteArray)) : Bool := al.any (fun x => decide (x.1 = ghS))
def STree.ghost : STree → Bool
  | .mk _ _ _ _ _ al _ _ => ghB al
mutual
def erT : STree → STree
  | .mk id k tag text cl al sl kids => .mk id k tag text (mineC cl) (mineS al) (mineI sl) (erL kids)
def erL : List STree → List STree
  | [] => []
  | t :: ts => if t.ghost = true then erL ts else erT t :: erL ts
end
theorem erL_app : ∀ (a b : List STree), erL (a ++ b) = erL a ++ erL b
  | [], b => by simp [erL]
  | t :: a, b => by
    rw [List.cons_append, erL, erL, erL_app a b]
    split <;> rfl
theorem erL_snoc (a : List STree) (t : STree) : erL (a ++ [t]) = if t.ghost = true then erL a else erL a ++ [erT t] := by
  rw [erL_app, erL, erL]
  split <;> simp
theorem erL_len (l : List STree) : (erL l).length ≤ l.length := by
  induction l with
  | nil => simp [erL]
  | cons t ts ih => rw [erL]; split <;> simp <;> omega
theorem gh_rsv : rsvS ghS = true := by decide +kernel
theorem erL_fix : ∀ (l : List STree), (∀ t ∈ l, t.ghost = false ∧ erT t = t) → erL l = l
  | [], _ => by simp [erL]
  | t :: ts, h => by
    rw [erL, if_neg (by simp [(h t (by simp)).1]), (h t (by simp)).2, erL_fix ts fun u hu => h u (by simp [hu])]
mutual
theorem erT_pre : ∀ (t : STree), (preT (erT t)).length ≤ (preT t).length
  | .mk id k tag text cl al sl kids => by
    rw [erT, preT, preT, List.length_cons, List.length_cons]
    have := erL_pre kids
    omega
theorem erL_pre : ∀ (l : List STree), (preL (erL l)).length ≤ (preL l).length
  | [] => by simp [erL]
  | t :: ts => by
    have h1 := erT_pre t
    have h2 := erL_pre ts
    rw [erL]
    split
    · rw [preL, List.length_append]; omega
    · rw [preL, preL, List.length_append, List.length_append]; omega
end
end Go.Proofs.YtkcjkbnbblpomaaGreatDoor
namespace Go.Proofs.YtkcjkbnbblpomaaGreatDoor
open Go.RowKit

mutual
def dep : Tree → Nat
  | .mk _ _ _ _ _ _ _ _ kids => depL kids + 1
def depL : List Tree → Nat
  | [] => 0
  | t :: ts => max (dep t) (depL ts)
end
mutual
def lng : Tree → Int
  | .mk _ _ _ _ _ _ _ (e, lv, m, _) kids => max (max 0 (max e (max lv m))) (lngL kids)
def lngL : List Tree → Int
  | [] => 0
  | t :: ts => max (lng t) (lngL ts)
end
def sumN (l : List Nat) : Nat := l.foldl (· + ·) 0
theorem sumN_snoc (l : List Nat) (x : Nat) : sumN (l ++ [x]) = sumN l + x := by simp [sumN]
theorem cntL_sum (ts : List Tree) : sumN (ts.map cnt) = cntL ts := by
  have : ∀ (ts : List Tree) (n : Nat), (ts.map cnt).foldl (· + ·) n = n + cntL ts := by
    intro ts
    induction ts with
    | nil => intro n; simp [cntL]
    | cons t ts ih => intro n; simp only [List.map_cons, List.foldl_cons, cntL]; rw [ih]; omega
  have := this ts 0
  simpa [sumN] using this
def mxI (l : List Int) : Int := l.foldl max 0
theorem cntL_snoc (ts : List Tree) (t : Tree) : cntL (ts ++ [t]) = cntL ts + cnt t := by rw [cntL_app]; simp [cntL]
theorem depL_snoc (ts : List Tree) (t : Tree) : depL (ts ++ [t]) = max (depL ts) (dep t) := by
  induction ts with
  | nil => simp [depL]
  | cons x ts ih => simp only [List.cons_append, depL, ih]; omega
end Go.Proofs.YtkcjkbnbblpomaaGreatDoor
namespace Go.Proofs.YtkcjkbnbblpomaaGreatDoor
open Go.RowKit

theorem Tree.ind {P : Tree → Prop} (h : ∀ (k : Int) (tag key text : ByteArray) (cl : List ByteArray) (al : List (ByteArray × ByteArray)) (sl : List (ByteArray × Int)) (o : Opt) (kids : List Tree), (∀ t ∈ kids, P t) → P (.mk k tag key text cl al sl o kids)) (t : Tree) : P t := by
  have : ∀ (n : Nat) (t : Tree), SizeOf.sizeOf t < n → P t := by
    intro n
    induction n with
    | zero => intro t h; omega
    | succ n ih =>
      intro t ht
      obtain ⟨k, tag, key, text, cl, al, sl, o, kids⟩ := t
      exact h _ _ _ _ _ _ _ _ _ fun u hu => ih u (by have := kid_lt (k := k) (tag := tag) (key := key) (text := text) (cl := cl) (at_ := al) (st := sl) (o := o) hu; omega)
  exact this _ t (Nat.lt_succ_self _)

open Classical in
theorem cln_sub (l : List ByteArray) : ∀ c ∈ clnC l, c ∈ l := by
  have : ∀ r : List ByteArray, ∀ c ∈ clnC r.reverse, c ∈ r.reverse := by
    intro r
    induction r with
    | nil => simp [clnC]
    | cons x r ih =>
      intro c hc
      rw [List.reverse_cons, clnC_snoc] at hc
      rw [List.reverse_cons]
      unfold addC at hc
      split at hc
      · exact List.mem_append_left _ (ih c hc)
      · rcases List.mem_append.1 hc with h | h
        · exact List.mem_append_left _ (ih c h)
        · exact List.mem_append_right _ h
  have := this l.reverse
  rwa [List.reverse_reverse] at this
theorem mrg_mem {P : Tree → Prop} (hp : ∀ t x, P t → P (t.plus x)) (l : List Tree) (h : ∀ t ∈ l, P t) : ∀ t ∈ mrg l, P t := by
  have : ∀ r : List Tree, (∀ t ∈ r, P t) → ∀ t ∈ mrg r.reverse, P t := by
    intro r
    induction r with
    | nil => intro _ t ht; simp [mrg] at ht
    | cons u r ih =>
      intro hr t ht
      have ih := ih fun t ht => hr t (by simp [ht])
      rw [List.reverse_cons, mrg_snoc] at ht
      unfold mrgS at ht
      split at ht
      · rename_i u0 hu0
        split at ht
        · rcases List.mem_append.1 ht with h | h
          · exact ih t ((List.dropLast_sublist _).subset h)
          · rw [List.mem_singleton] at h
            subst h
            exact hp _ _ (ih u0 (List.mem_of_getLast? hu0))
        · rcases List.mem_append.1 ht with h | h
          · exact ih t h
          · rw [List.mem_singleton] at h; subst h; exact hr t (by simp)
      · rcases List.mem_append.1 ht with h | h
        · exact ih t h
        · rw [List.mem_singleton] at h; subst h; exact hr t (by simp)
  have := this l.reverse (fun t ht => h t (by simpa using ht))
  rwa [List.reverse_reverse] at this
theorem nrmL_mem2 : ∀ {ts : List Tree} {u : Tree}, u ∈ nrmL ts → ∃ t ∈ ts, ¬ t.void ∧ u = nrm t
  | t :: ts, u, h => by
    rw [nrmL] at h
    split at h
    · obtain ⟨x, hx, e⟩ := nrmL_mem2 h
      exact ⟨x, by simp [hx], e⟩
    · rename_i hv
      rcases List.mem_cons.1 h with h | h
      · exact ⟨t, by simp, hv, h⟩
      · obtain ⟨x, hx, e⟩ := nrmL_mem2 h
        exact ⟨x, by simp [hx], e⟩
theorem cnt_plus (t : Tree) (x : ByteArray) : cnt (t.plus x) = cnt t := by cases t; simp only [Tree.plus, cnt]
theorem dep_plus (t : Tree) (x : ByteArray) : dep (t.plus x) = dep t := by cases t; simp only [Tree.plus, dep]
theorem mrg_cnt (l : List Tree) : cntL (mrg l) ≤ cntL l ∧ depL (mrg l) ≤ depL l := by
  have : ∀ r : List Tree, cntL (mrg r.reverse) ≤ cntL r.reverse ∧ depL (mrg r.reverse) ≤ depL r.reverse := by
    intro r
    induction r with
    | nil => simp [mrg]
    | cons t r ih =>
      rw [List.reverse_cons, mrg_snoc, cntL_snoc, depL_snoc]
      have ht := cnt_pos t
      unfold mrgS
      split
      · rename_i u hu
        have e := last_split hu
        have e1 := congrArg cntL e
        have e2 := congrArg depL e
        rw [cntL_snoc] at e1
        rw [depL_snoc] at e2
        split
        · rw [cntL_snoc, depL_snoc, cnt_plus, dep_plus]; omega
        · rw [cntL_snoc, depL_snoc]; omega
      · rw [cntL_snoc, depL_snoc]; omega
  have := this l.reverse
  rwa [List.reverse_reverse] at this
theorem nrmL_cnt : ∀ (l : List Tree), (∀ t ∈ l, cnt (nrm t) ≤ cnt t ∧ dep (nrm t) ≤ dep t) → cntL (nrmL l) ≤ cntL l ∧ depL (nrmL l) ≤ depL l
  | [], _ => by simp [nrmL]
  | t :: ts, h => by
    have ih := nrmL_cnt ts fun u hu => h u (by simp [hu])
    have ht := h t (by simp)
    rw [nrmL]
    split
    · simp only [cntL, depL]; omega
    · simp only [cntL, depL]; omega
theorem nrm_cnt (t : Tree) : cnt (nrm t) ≤ cnt t ∧ dep (nrm t) ≤ dep t := by
  induction t using Tree.ind with
  | h k tag key text cl al sl o kids ih =>
    have h1 := mrg_cnt (nrmL kids)
    have h2 := nrmL_cnt kids ih
    simp only [nrm, cnt, dep]
    omega

def lookS (s : ByteArray) : Bool := s.data.toList.all priB
theorem txt_look (s : ByteArray) : txtS s = (decide (s.size ≤ 64) && lookS s) := rfl
theorem look_app (a b : ByteArray) : lookS (a ++ b) = (lookS a && lookS b) := by
  unfold lookS
  rw [ByteArray.data_append, Array.toList_append, List.all_append]
def mayR (k : Int) (tag key text : ByteArray) (cl : List ByteArray) (al : List PrS) (sl : List PrI) (o : Opt) (kids : List Tree) : Bool :=
  if k = 1 then bareB tag key cl al sl o kids && lookS text
  else if k = 2 ∨ k = 3 ∨ k = 4 then decide (text = ⟨#[]⟩) && nameS tag && (namesL cl al sl).all nameS && (decide (key = ⟨#[]⟩) || keyS key) && valB al sl && optsB o k && keptB k kids
  else false
theorem mayB_R {k : Int} {tag key text : ByteArray} {cl : List ByteArray} {al : List PrS} {sl : List PrI} {o : Opt} {kids : List Tree} : mayB k tag key text cl al sl o kids = true ↔ mayR k tag key text cl al sl o kids = true ∧ text.size ≤ 64 := by
  unfold mayB mayR
  split
  · rw [txt_look]
    simp only [Bool.and_eq_true, decide_eq_true_eq]
    constructor
    · rintro ⟨h1, h2, h3⟩; exact ⟨⟨h1, h3⟩, h2⟩
    · rintro ⟨⟨h1, h3⟩, h2⟩; exact ⟨h1, h2, h3⟩
  · split
    · constructor
      · intro h
        refine ⟨h, ?_⟩
        simp only [Bool.and_eq_true, decide_eq_true_eq] at h
        have : text = ⟨#[]⟩ := h.1.1.1.1.1.1
        subst this
        decide
      · exact fun h => h.1
    · simp
inductive OkR : Tree → Prop
  | mk {k : Int} {tag key text : ByteArray} {cl : List ByteArray} {al : List PrS} {sl : List PrI} {o : Opt} {kids : List Tree}
    (h1 : mayR k tag key text cl al sl o kids = true) (h2 : (namesL cl al sl).any rsvS = false) (h3 : twcB (kids.map Tree.key) = false) (h4 : ∀ t ∈ kids, OkR t) : OkR (.mk k tag key text cl al sl o kids)
mutual
def shortT : Tree → Bool
  | .mk _ _ _ text _ _ _ _ kids => shortL kids && decide (text.size ≤ 64)
def shortL : List Tree → Bool
  | [] => true
  | t :: ts => shortT t && shortL ts
end
theorem shortL_iff : ∀ ts, shortL ts = true ↔ ∀ t ∈ ts, shortT t = true
  | [] => by simp [shortL]
  | t :: ts => by rw [shortL, Bool.and_eq_true, shortL_iff ts]; simp
theorem chk_okR (t : Tree) : ∀ (deep depth left : Int), (chkT t deep depth left).1 = 0 → OkR t ∧ deep + dep t - 1 ≤ depth ∧ (cnt t : Int) ≤ left ∧ (chkT t deep depth left).2 = left - cnt t := by
  induction t using Tree.ind with
  | h k tag key text cl al sl o kids ih =>
    intro deep depth left h
    rw [chkT] at h ⊢
    split at h
    · cases h
    · split at h
      · cases h
      · split at h
        · cases h
        · split at h
          · cases h
          · split at h
            · cases h
            · rename_i c1 c2 c3 c4 c5
              rw [if_neg c1, if_neg c2, if_neg c3, if_neg c4, if_neg c5]
              have hL : ∀ (ts : List Tree), (∀ t ∈ ts, t ∈ kids) → ∀ left : Int, 0 ≤ left → (chkL ts (deep + 1) depth left).1 = 0 → (∀ t ∈ ts, OkR t) ∧ (ts ≠ [] → deep + 1 + depL ts - 1 ≤ depth) ∧ (cntL ts : Int) ≤ left ∧ (chkL ts (deep + 1) depth left).2 = left - cntL ts := by
                intro ts
                induction ts with
                | nil => intro _ left hl _; simp [chkL, cntL, hl]
                | cons u us ihs =>
                  intro hm left hl h
                  rw [chkL] at h ⊢
                  by_cases hc : (chkT u (deep + 1) depth left).1 = 0
                  · rw [if_pos hc] at h ⊢
                    obtain ⟨a1, a2, a3, a4⟩ := ih u (hm u (by simp)) _ _ _ hc
                    have hu := cnt_pos u
                    rw [a4] at h ⊢
                    obtain ⟨b1, b2, b3, b4⟩ := ihs (fun t ht => hm t (by simp [ht])) _ (by omega) h
                    refine ⟨fun t ht => ?_, fun _ => ?_, ?_, ?_⟩
                    · rcases List.mem_cons.1 ht with rfl | ht
                      · exact a1
                      · exact b1 t ht
                    · simp only [depL]
                      cases us with
                      | nil => simp only [depL]; omega
                      | cons x xs => have := b2 (by simp); omega
                    · simp only [cntL]; omega
                    · rw [b4]; simp only [cntL]; omega
                  · rw [if_neg hc] at h
                    exact absurd h hc
              obtain ⟨b1, b2, b3, b4⟩ := hL kids (fun _ h => h) _ (by omega) h
              refine ⟨.mk ((mayB_R.1 (by simpa using c3)).1) (by simpa using c4) (by simpa using c5) b1, ?_, ?_, ?_⟩
              · simp only [dep]
                cases kids with
                | nil => simp only [depL]; omega
                | cons x xs => have := b2 (by simp); omega
              · simp only [cnt]; omega
              · rw [b4]; simp only [cnt]; omega
def kk (t : Tree) : Int × ByteArray := (t.kind, t.key)
theorem plus_key (t : Tree) (x : ByteArray) : (t.plus x).key = t.key := by cases t; rfl
theorem nrm_key (t : Tree) : (nrm t).key = t.key := by cases t; simp [nrm, Tree.key]
theorem kk_plus (t : Tree) (x : ByteArray) : kk (t.plus x) = kk t := by unfold kk; rw [plus_kind, plus_key]
theorem kk_nrm (t : Tree) : kk (nrm t) = kk t := by unfold kk; rw [nrm_kind, nrm_key]
theorem mrg_kk (l : List Tree) : ((mrg l).map kk).Sublist (l.map kk) := by
  have : ∀ r : List Tree, ((mrg r.reverse).map kk).Sublist (r.reverse.map kk) := by
    intro r
    induction r with
    | nil => exact List.Sublist.refl _
    | cons t r ih =>
      rw [List.reverse_cons, mrg_snoc, List.map_append]
      have key : ∀ m : List Tree, (m.map kk).Sublist (r.reverse.map kk) → ((m ++ [t]).map kk).Sublist (r.reverse.map kk ++ [t].map kk) := by
        intro m hm
        rw [List.map_append]
        exact hm.append (List.Sublist.refl _)
      unfold mrgS
      split
      · rename_i u hu
        split
        · have e := congrArg (List.map kk) (last_split hu)
          rw [List.map_append] at e
          rw [List.map_append]
          have e2 : [u.plus t.text].map kk = [u].map kk := by simp [kk_plus]
          rw [e2, ← e]
          exact ih.trans (List.sublist_append_left _ _)
        · exact key _ ih
      · exact key _ ih
  have := this l.reverse
  rwa [List.reverse_reverse] at this
theorem nrmL_kk : ∀ (l : List Tree), ((nrmL l).map kk).Sublist (l.map kk)
  | [] => by simp [nrmL]
  | t :: ts => by
    rw [nrmL, List.map_cons]
    split
    · exact (nrmL_kk ts).trans (List.sublist_cons_self _ _)
    · rw [List.map_cons, kk_nrm]
      exact (nrmL_kk ts).cons_cons _
theorem shown_kk (l : List Tree) : ((mrg (nrmL l)).map kk).Sublist (l.map kk) := (mrg_kk _).trans (nrmL_kk _)
theorem twc_sub {a b : List ByteArray} (h : a.Sublist b) (hb : twcB b = false) : twcB a = false := by
  unfold twcB at *
  rw [List.any_eq_false] at *
  intro c hc
  have hb := hb c (h.subset hc)
  simp only [decide_eq_true_eq, not_and, Nat.not_lt] at hb ⊢
  intro h0
  exact Nat.le_trans (List.Sublist.countP_le h) (hb h0)
theorem kidB_kk (t : Tree) : kidB t = (fun x : Int × ByteArray => decide (x.1 = 2 ∧ x.2 ≠ ⟨#[]⟩)) (kk t) := rfl
theorem kept_sub {k : Int} {a b : List Tree} (h : (a.map kk).Sublist (b.map kk)) (hb : keptB k b = true) : keptB k a = true := by
  unfold keptB at *
  simp only [Bool.or_eq_true, Bool.and_eq_true, decide_eq_true_eq, List.all_eq_true] at *
  have hl : a.length ≤ b.length := by simpa using h.length_le
  rcases hb with hb | ⟨hb1, hb2⟩
  · exact .inl hb
  · refine .inr ⟨fun t ht => ?_, ?_⟩
    · have hm : kk t ∈ b.map kk := h.subset (List.mem_map.2 ⟨t, ht, rfl⟩)
      obtain ⟨u, hu, e⟩ := List.mem_map.1 hm
      rw [kidB_kk, ← e, ← kidB_kk]
      exact hb1 u hu
    · rcases hb2 with h | h
      · exact .inl h
      · exact .inr (by omega)
theorem snap_sub {κ α : Type} [Lin κ] [DecidableEq κ] (key : α → κ) (l : List α) : ∀ x ∈ snapF key l, x ∈ l := fun _ hx => last_mem key ((snap_last key).1 hx)
theorem names_sub {cl : List ByteArray} {al : List PrS} {sl : List PrI} : ∀ c ∈ namesL (clnC cl) (snapF nmS al) (snapF nmI sl), c ∈ namesL cl al sl := by
  intro c hc
  unfold namesL at *
  rcases List.mem_append.1 hc with h | h
  · rcases List.mem_append.1 h with h | h
    · exact List.mem_append_left _ (List.mem_append_left _ (cln_sub _ c h))
    · obtain ⟨x, hx, rfl⟩ := List.mem_map.1 h
      exact List.mem_append_left _ (List.mem_append_right _ (List.mem_map.2 ⟨x, snap_sub nmS _ x hx, rfl⟩))
  · obtain ⟨x, hx, rfl⟩ := List.mem_map.1 h
    exact List.mem_append_right _ (List.mem_map.2 ⟨x, snap_sub nmI _ x hx, rfl⟩)
theorem mayR_nrm {k : Int} {tag key text : ByteArray} {cl : List ByteArray} {al : List PrS} {sl : List PrI} {o : Opt} {kids : List Tree} (h : mayR k tag key text cl al sl o kids = true) :
    mayR k tag key text (clnC cl) (snapF nmS al) (snapF nmI sl) o (mrg (nrmL kids)) = true := by
  unfold mayR at *
  split at h
  · rename_i hk
    rw [if_pos hk]
    rw [Bool.and_eq_true] at h ⊢
    refine ⟨?_, h.2⟩
    have h1 := h.1
    unfold bareB at *
    simp only [decide_eq_true_eq] at *
    have e1 := clnC_le cl
    have e2 := snap_len nmS al
    have e3 := snap_len nmI sl
    have e4 := mrg_len (nrmL kids)
    have e5 := nrmL_len kids
    exact ⟨h1.1, h1.2.1, by omega, h1.2.2.2⟩
  · rename_i hk
    rw [if_neg hk]
    split at h
    · rename_i hk2
      rw [if_pos hk2]
      simp only [Bool.and_eq_true] at h ⊢
      obtain ⟨⟨⟨⟨⟨⟨a1, a2⟩, a3⟩, a4⟩, a5⟩, a6⟩, a7⟩ := h
      refine ⟨⟨⟨⟨⟨⟨a1, a2⟩, ?_⟩, a4⟩, ?_⟩, a6⟩, kept_sub (shown_kk kids) a7⟩
      · rw [List.all_eq_true] at *
        exact fun c hc => a3 c (names_sub c hc)
      · unfold valB at *
        rw [Bool.and_eq_true, List.all_eq_true, List.all_eq_true] at *
        exact ⟨fun x hx => a5.1 x (snap_sub nmS _ x hx), fun x hx => a5.2 x (snap_sub nmI _ x hx)⟩
    · cases h
theorem key_kk (l : List Tree) : l.map Tree.key = (l.map kk).map (·.2) := by rw [List.map_map]; rfl
theorem OkR.plus {t u : Tree} (h : OkR t) (hu : OkR u) (ht : t.kind = 1) (hk : u.kind = 1) : OkR (u.plus t.text) := by
  cases h with
  | @mk k tag key text cl al sl o kids h1 h2 h3 h4 =>
    cases hu with
    | @mk k' tag' key' text' cl' al' sl' o' kids' g1 g2 g3 g4 =>
      have e1 : k = 1 := ht
      have e2 : k' = 1 := hk
      subst e1 e2
      refine .mk ?_ g2 g3 g4
      unfold mayR at *
      rw [if_pos rfl, Bool.and_eq_true] at *
      exact ⟨g1.1, by rw [look_app, g1.2]; exact h1.2⟩
theorem mrg_okR (l : List Tree) (h : ∀ t ∈ l, OkR t) : ∀ t ∈ mrg l, OkR t := by
  have : ∀ r : List Tree, (∀ t ∈ r, OkR t) → ∀ t ∈ mrg r.reverse, OkR t := by
    intro r
    induction r with
    | nil => intro _ t ht; simp [mrg] at ht
    | cons u r ih =>
      intro hr t ht
      have ih := ih fun t ht => hr t (by simp [ht])
      rw [List.reverse_cons, mrg_snoc] at ht
      unfold mrgS at ht
      split at ht
      · rename_i u0 hu0
        split at ht
        · rename_i hc
          rcases List.mem_append.1 ht with h | h
          · exact ih t ((List.dropLast_sublist _).subset h)
          · rw [List.mem_singleton] at h
            subst h
            exact (hr u (by simp)).plus (ih u0 (List.mem_of_getLast? hu0)) hc.1 hc.2
        · rcases List.mem_append.1 ht with h | h
          · exact ih t h
          · rw [List.mem_singleton] at h; subst h; exact hr t (by simp)
      · rcases List.mem_append.1 ht with h | h
        · exact ih t h
        · rw [List.mem_singleton] at h; subst h; exact hr t (by simp)
  have := this l.reverse (fun t ht => h t (by simpa using ht))
  rwa [List.reverse_reverse] at this
theorem OkR.nrm {t : Tree} (h : OkR t) : OkR (nrm t) := by
  induction t using Tree.ind with
  | h k tag key text cl al sl o kids ih =>
    cases h with
    | mk h1 h2 h3 h4 =>
      rw [Proofs.YtkcjkbnbblpomaaGreatDoor.nrm]
      refine .mk (mayR_nrm h1) ?_ ?_ (mrg_okR _ fun u hu => ?_)
      · rw [List.any_eq_false] at *
        exact fun c hc => h2 c (names_sub c hc)
      · refine twc_sub ?_ h3
        rw [key_kk, key_kk]
        exact (shown_kk kids).map _
      · obtain ⟨t, ht, rfl⟩ := nrmL_mem hu
        exact ih t ht (h4 t ht)
theorem Siz.mono {X Y : Nat} {t : Tree} (h : Siz X t) (hXY : X ≤ Y) : Siz Y t := by
  induction h with
  | mk h1 h2 h3 h4 h5 h6 _ ih => exact .mk (by omega) (by omega) (by omega) (fun c hc => by have := h4 c hc; omega) (fun x hx => by have := h5 x hx; omega) (fun x hx => by have := h6 x hx; omega) ih
end Go.Proofs.YtkcjkbnbblpomaaGreatDoor
